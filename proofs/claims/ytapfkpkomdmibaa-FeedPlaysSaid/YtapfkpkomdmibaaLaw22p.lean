/- The walk over hoardlaw22.FeedPlays. -/
import Derived.Test.YtapfkpkomdmibaaLaw22
set_option linter.unusedVariables false
set_option linter.unusedSimpArgs false
namespace Go.Proofs.Ytapfkpkomdmibaa
open Go.RowKit
attribute [local go_sem ↓] Go.wp_at_zero Go.wp_at_succ

def J22 (w : World) (p x : Nat) (F G : List Nat) (r wr : Nat) (E : List (Int × ByteArray)) (n lost B : Nat) : Prop :=
  FeedAt w p F r wr E n lost ∧ Ref22 w x G r wr E lost ∧ Dis F G ∧ Ge B F ∧ Ge B G
theorem J22.fr {w w' : World} {p x r wr n lost B : Nat} {F G : List Nat} {E : List (Int × ByteArray)} (h : J22 w p x F G r wr E n lost B) (hf : Fr [] w w') : J22 w' p x F G r wr E n lost B := by
  obtain ⟨h1, h2, h3, h4, h5⟩ := h
  exact ⟨h1.fr hf (fun b _ => by simp), h2.fr hf (fun b _ => by simp), h3, h4, h5⟩
theorem J22.step {w w3 w4 : World} {p x r wr n n' lost lost' B : Nat} {F G G' : List Nat} {E E' : List (Int × ByteArray)} (h : J22 w p x F G r wr E n lost B) (hB : B ≤ w.heap.size) (hr : FeedAt w3 p F r wr E' n' lost') (hf : Fr F w w3)
    (hx : Ref22 w4 x G' r wr E' lost') (hs : Sub G' G w3) (hf4 : Fr G w3 w4) : J22 w4 p x F G' r wr E' n' lost' B := by
  obtain ⟨h1, h2, h3, h4, h5⟩ := h
  exact ⟨hr.fr hf4 h3, hx, (h3.symm.sub hs hr.lt).symm, h4, hs.ge h5 (Nat.le_trans hB hf.size)⟩
theorem readE_len (c : Nat) (E : List (Int × ByteArray)) (key : ByteArray) : (readE c E key).length ≤ E.length + 1 := by unfold readE; split <;> simp
theorem writeE_len (c : Nat) (E : List (Int × ByteArray)) (kd : Int) (key : ByteArray) : (writeE c E kd key).length ≤ E.length + 1 := by unfold writeE; split <;> simp
theorem readL_len (c : Nat) (E : List (Int × ByteArray)) (lost : Nat) : readL c E lost ≤ lost + 1 := by unfold readL; split <;> simp

set_option maxRecDepth 100000 in
set_option maxHeartbeats 1000000 in
theorem feedPlays (r cw : Int) (l : List FAct) (v : Value) (w : World) (h : Rd w 3 v l.length (l.flatMap FAct.enc)) (hl : Hid (l.length ≤ maxLen)) :
  Calls Try.prog 8 #[.int .i64 r, .int .i64 cw, v] w fun e w' => e = .returned (.bool true) ∧ Fr [] w w' := by
  by_cases hh : heavyB l = true
  · go_enter Try.func8, Try.ntmps8
    go_wp2_with fail
    refine (heavy22 l v w h hl).mono ?_
    rintro e w1 ⟨rfl, rfl⟩
    rw [hh]
    go_wp2
    go_ret
    exact ⟨rfl, Fr.refl _ _⟩
  have hh : heavyB l = false := by simpa using hh
  by_cases hv : 0 ≤ r ∧ r ≤ 256 ∧ 1 ≤ cw ∧ cw ≤ 256
  · obtain ⟨hv1, hv2, hv3, hv4⟩ := hv
    obtain ⟨r, rfl⟩ := Int.eq_ofNat_of_zero_le hv1
    obtain ⟨cw, rfl⟩ := Int.eq_ofNat_of_zero_le (show 0 ≤ cw by omega)
    obtain ⟨hlen, a, c, rfl, hcc⟩ := id h
    have HH := Lib.hid hh
    have HC := Lib.hid hcc
    have HR := Lib.hid h
    clear hcc hlen hh
    go_enter Try.func8, Try.ntmps8
    go_wp2_with fail
    refine (heavy22 l _ w HR.out hl).mono ?_
    rintro e w1 ⟨rfl, rfl⟩
    rw [HH.out]
    clear h HR
    go_wp2_with fail
    refine (feedNew r cw _ (by omega) (by omega) (by omega)).mono ?_
    rintro e w1 ⟨p, F, rfl, h1, hge, hf1⟩
    go_wp2_with fail
    refine (new22 r cw _ (by omega) (by omega) (by omega)).mono ?_
    rintro e w2 ⟨rfl, h2, hf2⟩
    have hj : J22 w2 p w1.heap.size F [w1.heap.size] r cw [] 0 0 w.heap.size :=
      ⟨h1.fr hf2 (fun b _ => by simp), h2, (Dis.new (w := w1) (by intro b hb; simp at hb; omega) h1.lt).symm, hge, by intro b hb; have := hf1.size; simp at hb; omega⟩
    have hF : Fr [] w w2 := hf1.same hf2
    obtain ⟨x, hx⟩ : ∃ x, w1.heap.size = x := ⟨_, rfl⟩
    rw [hx] at hj ⊢
    clear hx h1 hge hf1 h2 hf2
    go_wp2_with fail
    have HL := hl
    go_loopw [11] (fun i wr0 => ∃ (k : Nat) (E : List (Int × ByteArray)) (n lost : Nat) (F G : List Nat), k ≤ l.length ∧ k ≤ 250 ∧ i = .int .i64 k ∧ E.length ≤ k ∧ n ≤ k ∧ lost ≤ k ∧ J22 wr0 p x F G r cw E n lost w.heap.size ∧ Fr [] w wr0) (fun i _ => 250 - (intOf i).toNat)
    case atStart => exact ⟨0, [], 0, 0, _, _, Nat.zero_le _, by omega, rfl, by simp, by omega, by omega, hj, hF⟩
    case round =>
      obtain ⟨k, E, n, lost, F, G, hk, hk2, rfl, hE, hn, hlost, hj, hF⟩ := hrel
      by_cases hlt : k < l.length ∧ k < 250
      · obtain ⟨hl1, hl2⟩ := hlt
        rcases HC.out with hz | ⟨b, o, rfl, hcell⟩
        · omega
        have x0 := hcell (k * 3 + 0) (.int .i64 l[k].k) (by rw [flat_get (s := 3) (fun _ => rfl) l k hl1 0 (by omega)]; rfl)
        have x1 := hcell (k * 3 + 1) (.int .i64 l[k].n) (by rw [flat_get (s := 3) (fun _ => rfl) l k hl1 1 (by omega)]; rfl)
        have x2 := hcell (k * 3 + 2) (.string l[k].key) (by rw [flat_get (s := 3) (fun _ => rfl) l k hl1 2 (by omega)]; rfl)
        rw [← Nat.add_assoc] at x0 x1 x2
        rw [Nat.add_zero] at x0
        have hbw : b < w.heap.size := World.block_lt_of_cell? _ _ x0
        have y0 := cell_fr hF x0 (by simp)
        have y1 := cell_fr hF x1 (by simp)
        have y2 := cell_fr hF x2 (by simp)
        obtain ⟨kd, hkd⟩ : ∃ z, l[k].k = z := ⟨_, rfl⟩
        obtain ⟨nn, hnn⟩ : ∃ z, l[k].n = z := ⟨_, rfl⟩
        obtain ⟨key, hkey⟩ : ∃ z, l[k].key = z := ⟨_, rfl⟩
        rw [hkd] at y0
        rw [hnn] at y1
        rw [hkey] at y2
        clear hcell x0 x1 x2 hkd hnn hkey
        have hB := hF.size
        have hstep : ∀ w3 w4 n' lost' G' E', FeedAt w3 p F r cw E' n' lost' → Fr F wr w3 → Ref22 w4 x G' r cw E' lost' → Sub G' G w3 → Fr G w3 w4 → J22 w4 p x F G' r cw E' n' lost' w.heap.size ∧ Fr [] w w4 :=
          fun w3 w4 n' lost' G' E' a1 a2 a3 a4 a5 => ⟨hj.step hB a1 a2 a3 a4 a5, (hF.fresh a2 hj.2.2.2.1).fresh a5 hj.2.2.2.2⟩
        have HS := Lib.hid hstep
        obtain ⟨hf, hx, hd, hgF, hgG⟩ := hj
        have hbF : b ∉ F := fun h => by have := hgF b h; omega
        have hbG : b ∉ G := fun h => by have := hgG b h; omega
        clear hstep
        by_cases hk1 : kd = 1
        · subst hk1
          go_wp2_with fail
          go_region_held3 (fun w' => w'.cell? ⟨b, o + k * 3 + 2, none⟩ = some (.string key)) (first | go_keep | exact cell_fr hf3 (by assumption) hbF | exact cell_fr hf4 (by assumption) hbG)
            (first
              | (go_at_call 36; refine (read (hf.fr ((Fr.refl [] _).drew) (fun b _ => by simp)) (by omega) (by omega) key).mono ?_; rintro e w3 ⟨rfl, ⟨n3, hn3, h3⟩, hf3⟩)
              | (go_at_call 42; refine (read22 (hx.fr (((Fr.refl F _).drew).same hf3) hd.symm) (by omega) (by omega) key).mono ?_; rintro e w4 ⟨rfl, G', h4, hs4, hf4⟩))
          obtain ⟨hj4, hF4⟩ := HS.out _ _ _ _ _ _ h3 (((Fr.refl F _).drew).same hf3) h4 hs4 hf4
          clear hf hx hd hgF hgG h3 hf3 h4 hs4 hf4 HS hF y0 y1 y2
          obtain ⟨E2, hE2, hE3⟩ : ∃ M : List (Int × ByteArray), readE r E key = M ∧ M.length ≤ k + 1 := ⟨_, rfl, by have := readE_len r E key; omega⟩
          obtain ⟨o2, ho2, ho3⟩ : ∃ M, readL r E lost = M ∧ M ≤ k + 1 := ⟨_, rfl, by have := readL_len r E lost; omega⟩
          rw [hE2, ho2] at hj4
          clear hE2 ho2
          go_wp2_with fail
          obtain ⟨hf, hx, hd, hgF, hgG⟩ := hj4
          refine (waiting hf).mono ?_
          rintro e w5 ⟨rfl, q, rfl⟩
          have hf5 : Fr [] w4 (w4.drewN q) := (Fr.refl _ _).drewN q
          replace hf := hf.fr hf5 (fun b _ => by simp)
          replace hx := hx.fr hf5 (fun b _ => by simp)
          have hF5 := hF4.same hf5
          generalize w4.drewN q = w5 at *
          obtain ⟨a2, c2, hG, hne, hs, hxx⟩ := id hx
          have x1 := cell_of_block hxx 1
          have x2 := cell_of_block hxx 2
          have x5 := cell_of_block hxx 5
          simp at x1 x2 x5
          clear hG hxx hs hne hF4 hf5
          go_wp2_with fail
          go_quiet ((go_at_call 46; exact Calls.quiet_of_same ((lost_c (hf.fr ((Fr.refl [] _).drewN _) (fun b _ => by simp))).mono fun _ _ h => ⟨h.1, h.2.symm⟩)))
          go_wp2_with fail
          refine ⟨⟨k + 1, E2, n3, o2, F, G', by omega, by omega, by go_num, by omega, by omega, by omega, ⟨hf.fr ((Fr.refl [] _).drewN _) (fun b _ => by simp), hx.fr ((Fr.refl [] _).drewN _) (fun b _ => by simp), hd, hgF, hgG⟩, hF5.drewN _⟩, by simp [intOf]; omega⟩
        by_cases hk2 : kd = 2
        · subst hk2
          go_wp2_with fail
          go_region_held3 (fun w' => w'.cell? ⟨b, o + k * 3 + 2, none⟩ = some (.string key) ∧ w'.cell? ⟨b, o + k * 3 + 1, none⟩ = some (.int .i64 nn)) (first | go_keep | exact ⟨cell_fr (((Fr.refl F _).drew).same hf3) y2 hbF, cell_fr (((Fr.refl F _).drew).same hf3) y1 hbF⟩ | exact ⟨cell_fr hf4 (cell_fr (((Fr.refl F _).drew).same hf3) y2 hbF) hbG, cell_fr hf4 (cell_fr (((Fr.refl F _).drew).same hf3) y1 hbF) hbG⟩)
            (first
              | (go_at_call 37; refine (write (hf.fr ((Fr.refl [] _).drew) (fun b _ => by simp)) (by omega) nn key).mono ?_; rintro e w3 ⟨rfl, ⟨n3, hn3, h3⟩, hf3⟩)
              | (go_at_call 43; refine (write22 (hx.fr (((Fr.refl F _).drew).same hf3) hd.symm) (by omega) nn key).mono ?_; rintro e w4 ⟨rfl, G', h4, hs4, hf4⟩))
          obtain ⟨hj4, hF4⟩ := HS.out _ _ _ _ _ _ h3 (((Fr.refl F _).drew).same hf3) h4 hs4 hf4
          clear hf hx hd hgF hgG h3 hf3 h4 hs4 hf4 HS hF y0 y1 y2
          obtain ⟨E2, hE2, hE3⟩ : ∃ M : List (Int × ByteArray), writeE cw E nn key = M ∧ M.length ≤ k + 1 := ⟨_, rfl, by have := writeE_len cw E nn key; omega⟩
          obtain ⟨o2, ho2, ho3⟩ : ∃ M, lost = M ∧ M ≤ k + 1 := ⟨_, rfl, by omega⟩
          rw [hE2, ho2] at hj4
          clear hE2 ho2
          go_wp2_with fail
          obtain ⟨hf, hx, hd, hgF, hgG⟩ := hj4
          refine (waiting hf).mono ?_
          rintro e w5 ⟨rfl, q, rfl⟩
          have hf5 : Fr [] w4 (w4.drewN q) := (Fr.refl _ _).drewN q
          replace hf := hf.fr hf5 (fun b _ => by simp)
          replace hx := hx.fr hf5 (fun b _ => by simp)
          have hF5 := hF4.same hf5
          generalize w4.drewN q = w5 at *
          obtain ⟨a2, c2, hG, hne, hs, hxx⟩ := id hx
          have x1 := cell_of_block hxx 1
          have x2 := cell_of_block hxx 2
          have x5 := cell_of_block hxx 5
          simp at x1 x2 x5
          clear hG hxx hs hne hF4 hf5
          go_wp2_with fail
          go_quiet ((go_at_call 46; exact Calls.quiet_of_same ((lost_c (hf.fr ((Fr.refl [] _).drewN _) (fun b _ => by simp))).mono fun _ _ h => ⟨h.1, h.2.symm⟩)))
          go_wp2_with fail
          refine ⟨⟨k + 1, E2, n3, o2, F, G', by omega, by omega, by go_num, by omega, by omega, by omega, ⟨hf.fr ((Fr.refl [] _).drewN _) (fun b _ => by simp), hx.fr ((Fr.refl [] _).drewN _) (fun b _ => by simp), hd, hgF, hgG⟩, hF5.drewN _⟩, by simp [intOf]; omega⟩
        by_cases hk3 : kd = 3
        · subst hk3
          go_wp2_with fail
          refine (drain hf (by omega)).mono ?_
          rintro e w3 ⟨v3, rfl, hv3, h3, hf3⟩
          obtain ⟨a3, c3, rfl⟩ := (Sl.ofOwn hv3).form
          go_wp2_with fail
          refine (drain22 (hx.fr hf3 hd.symm)).mono ?_
          rintro e w3a ⟨v4, rfl, hv4, h4, hxG, hvG, hf4⟩
          obtain ⟨a4, c4, rfl⟩ := hv4.form
          have hxl := hx.lt x hxG
          have s1 := (Sl.ofOwn hv3).fr hf4 (fun b hb h => by simp at hb h; subst h; exact ownNe hv3 hxl hb.symm)
          obtain ⟨hj4, hF4⟩ := HS.out _ _ _ _ _ _ h3 hf3 h4 (fun b hb => by simp at hb; subst hb; exact .inl hxG) (hf4.mono (fun b hb _ => by simp at hb; subst hb; exact hxG))
          clear hf hx hd hgF hgG h3 hf3 h4 hxG hvG hf4 HS hF y0 y1 y2 hv3 hxl
          go_wp2_with fail
          refine (events22 _ _ E _ s1 hv4 (by omega)).mono ?_
          rintro e w4 ⟨rfl, hf5⟩
          replace hj4 := hj4.fr hf5
          replace hF4 := hF4.same hf5
          clear s1 hv4 hf5
          obtain ⟨E2, hE2⟩ : ∃ M : List (Int × ByteArray), M = [] := ⟨_, rfl⟩
          have hE3 : E2.length ≤ k + 1 := by subst hE2; simp
          rw [← hE2] at hj4
          obtain ⟨n3, hn3⟩ : ∃ M, M = n := ⟨_, rfl⟩
          obtain ⟨o2, ho2⟩ : ∃ M, M = lost := ⟨_, rfl⟩
          obtain ⟨G', hG'⟩ : ∃ M : List Nat, M = [x] := ⟨_, rfl⟩
          rw [← hn3, ← ho2, ← hG'] at hj4
          clear hE2 hG'
          go_wp2_with fail
          obtain ⟨hf, hx, hd, hgF, hgG⟩ := hj4
          refine (waiting hf).mono ?_
          rintro e w5 ⟨rfl, q, rfl⟩
          have hf5 : Fr [] w4 (w4.drewN q) := (Fr.refl _ _).drewN q
          replace hf := hf.fr hf5 (fun b _ => by simp)
          replace hx := hx.fr hf5 (fun b _ => by simp)
          have hF5 := hF4.same hf5
          generalize w4.drewN q = w5 at *
          obtain ⟨a2, c2, hG, hne, hs, hxx⟩ := id hx
          have x1 := cell_of_block hxx 1
          have x2 := cell_of_block hxx 2
          have x5 := cell_of_block hxx 5
          simp at x1 x2 x5
          clear hG hxx hs hne hF4 hf5
          go_wp2_with fail
          go_quiet ((go_at_call 46; exact Calls.quiet_of_same ((lost_c (hf.fr ((Fr.refl [] _).drewN _) (fun b _ => by simp))).mono fun _ _ h => ⟨h.1, h.2.symm⟩)))
          go_wp2_with fail
          refine ⟨⟨k + 1, E2, n3, o2, F, G', by omega, by omega, by go_num, by omega, by omega, by omega, ⟨hf.fr ((Fr.refl [] _).drewN _) (fun b _ => by simp), hx.fr ((Fr.refl [] _).drewN _) (fun b _ => by simp), hd, hgF, hgG⟩, hF5.drewN _⟩, by simp [intOf]; omega⟩
        · have n1 : (kd == 1) = false := by simpa using hk1
          have n2 : (kd == 2) = false := by simpa using hk2
          have n3 : (kd == 3) = false := by simpa using hk3
          have hj4 : J22 wr p x F G r cw E n lost w.heap.size := ⟨hf, hx, hd, hgF, hgG⟩
          have hF4 := hF
          obtain ⟨E2, hE2⟩ : ∃ M, M = E := ⟨_, rfl⟩
          obtain ⟨n3, hn3⟩ : ∃ M, M = n := ⟨_, rfl⟩
          obtain ⟨o2, ho2⟩ : ∃ M, M = lost := ⟨_, rfl⟩
          obtain ⟨w4, hw4⟩ : ∃ M, M = wr := ⟨_, rfl⟩
          obtain ⟨G', hG'⟩ : ∃ M, M = G := ⟨_, rfl⟩
          subst hE2 hn3 ho2 hw4 hG'
          clear hf hx hd hgF hgG HS
          clear hF
          go_wp2_with fail
          obtain ⟨hf, hx, hd, hgF, hgG⟩ := hj4
          refine (waiting hf).mono ?_
          rintro e w5 ⟨rfl, q, rfl⟩
          have hf5 : Fr [] w4 (w4.drewN q) := (Fr.refl _ _).drewN q
          replace hf := hf.fr hf5 (fun b _ => by simp)
          replace hx := hx.fr hf5 (fun b _ => by simp)
          have hF5 := hF4.same hf5
          generalize w4.drewN q = w5 at *
          obtain ⟨a2, c2, hG, hne, hs, hxx⟩ := id hx
          have x1 := cell_of_block hxx 1
          have x2 := cell_of_block hxx 2
          have x5 := cell_of_block hxx 5
          simp at x1 x2 x5
          clear hG hxx hs hne hF4 hf5
          go_wp2_with fail
          go_quiet ((go_at_call 46; exact Calls.quiet_of_same ((lost_c (hf.fr ((Fr.refl [] _).drewN _) (fun b _ => by simp))).mono fun _ _ h => ⟨h.1, h.2.symm⟩)))
          go_wp2_with fail
          refine ⟨⟨k + 1, E2, n3, o2, F, G', by omega, by omega, by go_num, by omega, by omega, by omega, ⟨hf.fr ((Fr.refl [] _).drewN _) (fun b _ => by simp), hx.fr ((Fr.refl [] _).drewN _) (fun b _ => by simp), hd, hgF, hgG⟩, hF5.drewN _⟩, by simp [intOf]; omega⟩
      · obtain ⟨hf, hx, hd, hgF, hgG⟩ := hj
        clear hf hx
        have hge : l.length ≤ k ∨ (k < l.length ∧ 250 ≤ k) := by omega
        rcases hge with hge | ⟨hge0, hge⟩
        all_goals
          go_wp2_with fail
          refine (known22 _).mono ?_
          rintro e w7 ⟨rfl, hf7⟩
          go_wp2
          go_ret
          exact ⟨rfl, hF.same hf7⟩
  · go_enter Try.func8, Try.ntmps8
    go_wp2_with fail
    refine (heavy22 l v w h hl).mono ?_
    rintro e w1 ⟨rfl, rfl⟩
    rw [hh]
    obtain ⟨hlen, a, c, rfl, hcc⟩ := h
    clear hlen hcc
    go_wp2_with fail
    refine (feedNew_bad r cw _ hv).mono ?_
    rintro e w1 ⟨rfl, rfl⟩
    go_wp2_with fail
    refine (new22_bad r cw _ hv).mono ?_
    rintro e w1 ⟨rfl, rfl⟩
    go_wp2_with fail
    by_cases hz : l.length = 0
    all_goals
      go_loopw [11] (fun i wr0 => i = .int .i64 0 ∧ wr0 = w) (fun i _ => 0)
      case atStart => exact ⟨rfl, rfl⟩
      case round =>
        obtain ⟨rfl, rfl⟩ := hrel
        go_wp2_with fail
        refine (known22 _).mono ?_
        rintro e w1 ⟨rfl, hf⟩
        go_wp2
        go_ret
        exact ⟨rfl, hf⟩
end Go.Proofs.Ytapfkpkomdmibaa
