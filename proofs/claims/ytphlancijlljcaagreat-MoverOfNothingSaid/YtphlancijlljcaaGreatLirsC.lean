/- The walks over lirs' engine: Access of a key that is not resident. -/
import Derived.Test.YtphlancijlljcaaGreatLirsB
set_option linter.unusedVariables false
set_option linter.unusedSimpArgs false
namespace Go.Proofs.YtphlancijlljcaaGreat
open Go.RowKit
attribute [local go_sem ↓] Go.wp_at_zero Go.wp_at_succ
/-- What is used of a key that is not resident: its engine behind the making of room. -/
def missL (r : Lirs) (key : ByteArray) : Lirs := (if cntS r.S 1 < r.most ∨ stS r.S key = 3 then r.heats key else r.chills key).forgets.prunes
section
variable {u : LC} {w w0 w1 w2 w' W : World} {F F1 G : List Nat} {t : LSt} {s : Lirs}
theorem forget_sub (c : Nat) (S : Stk) : (forgetS c S).Sublist S := by
 unfold forgetS
 split
 ·exact cutS_sub _ _
 ·exact List.Sublist.refl _
set_option maxHeartbeats 2000000 in
set_option maxRecDepth 100000 in
theorem laccess_missA (Ht : LRw u w F t) (hc : Coh s.S s.Q t) (hi : s.Inv) (huc : u.c = s.c) (hmo : u.most = s.most) (key : ByteArray) (hz : key.size ≤ maxLen) {x y z : Nat} (hx : kindS s.S s.Q key = x) (hy : hOf t.LS key = y) (hzz : hOf t.LQ key = z) (hx1 : x ≠ 1) (hx2 : x ≠ 2) (hlt0 : s.len < s.c) :
  Calls Tryz.prog 338 #[.pointer (some ⟨u.e, 0, none⟩), .string key] w (LARet u w F (false, [], missL s key)) := by
 obtain ⟨MS, hMS⟩ : ∃ m, missL s key = m := ⟨_, rfl⟩
 rw [hMS]
 have HMS := Lib.hid hMS
 clear hMS
 have HUC := Lib.hid (And.intro huc (And.intro hmo (And.intro (rfl : s.c = s.c) hi.c2)))
 have HRI := Lib.hid hi
 clear huc hmo
 have hslen := hi.si.len
 have hres := hi.res
 have hgh := hi.gh
 have hhm := hi.hm
 have hcb := hi.c2
 have hsi := hi.si
 have hmb : s.most ≤ 1024 := by unfold Lirs.most; omega
 have hbd : s.S.length + s.Q.length ≤ 10000 := by omega
 obtain ⟨k0, _, _, _, k4, _, _⟩ := Ht.cells
 have hel : u.e < w.heap.size := Ht.lt _ Ht.ein
 have hget := hc.get hsi key
 rw [hx, hy, hzz] at hget
 have HGET := Lib.hid (Ht.get key hz hget)
 obtain ⟨n, hn⟩ : ∃ n, s.Q.length + cntS s.S 1 = n := ⟨_, rfl⟩
 have hnb : n ≤ 1024 := by omega
 have HLN := Lib.hid fun (W : World) (f : Fr [] w W) => llen ⟨t, Ht.fr0 f, hc⟩ (by omega) hn
 have HN := Lib.hid hn
 have HST := Lib.hid (And.intro Ht (And.intro hc (And.intro hi (And.intro hx (And.intro hy hzz)))))
 have hlF := Lib.hid Ht.lt
 have b1 : ((x : Int) == 1) = false := by rw [beq_eq_false_iff_ne]; omega
 have b2 : ((x : Int) == 2) = false := by rw [beq_eq_false_iff_ne]; omega
 clear Ht hc hi hx hy hzz hslen hres hgh hhm hcb hsi hmb hbd hget hn
 go_enter Tryz.func338, Tryz.ntmps338
 go_wp2_with fail
 refine HGET.out.mono ?_
 rintro en w1 ⟨⟨bb, rfl⟩, f1⟩
 have fa : Fr [] w (w1.alloc (.cells #[.int .i64 x, .int .i64 y, .int .i64 z] 201)) := f1.alloc _
 have hb0 : EB (w1.alloc (.cells #[.int .i64 x, .int .i64 y, .int .i64 z] 201)) w1.heap.size (x, y, z) := block_alloc_new _ _
 have hsz1 := f1.size
 have hel1 : u.e < w1.heap.size := by omega
 have hnF : w1.heap.size ∉ F := not_ge hlF.out hsz1
 replace k0 := cell_fr fa k0 (by simp)
 replace k4 := cell_fr fa k4 (by simp)
 obtain ⟨kb0, kb1, kb2⟩ := hb0.cells
 have HA := Lib.hid (And.intro fa (And.intro hb0 hnF))
 have hB0 : w1.heap.size < (w1.alloc (.cells #[.int .i64 x, .int .i64 y, .int .i64 z] 201)).heap.size := hb0.lt
 clear f1 fa hb0
 go_wp2_with fail
 generalize w1.alloc (.cells #[.int .i64 x, .int .i64 y, .int .i64 z] 201) = W0 at *
 have q0 : (n : Int) < (u.c : Int) := by
  have := HN.out
  have := HUC.out.1
  simp only [Lirs.len] at hlt0
  omega
 first
  | (go_region_held3 (fun w' => w'.cell? ⟨u.e, 0, none⟩ = some (.int .i64 (u.c : Nat)))
    (first
     | exact k0
     | exact cell_fr (by first | assumption | exact (Fr.refl [] _).drew | exact Fr.alloc (by assumption) _ | exact ((Fr.refl [] _).drew).alloc _) k0 (by simp)
     | exact cell_fr (((Fr.refl [] _).drew).same (by assumption)) k0 (by simp))
    (first | (go_at_call 343; refine (HLN.out _ (HA.out.1.same (by first | assumption | exact (Fr.refl [] _).drew | exact Fr.alloc (by assumption) _ | exact ((Fr.refl [] _).drew).alloc _))).mono ?_; rintro en w2 ⟨rfl, f2⟩)))
  | fail
 have f02 : Fr [] W0 w2 := ((Fr.refl [] _).drew).same f2
 obtain ⟨wR, hwR⟩ : ∃ wR, wR = w2 := ⟨_, rfl⟩
 obtain ⟨FR, hFRe⟩ : ∃ FR, FR = F := ⟨_, rfl⟩
 obtain ⟨r, hrs⟩ : ∃ r, r = s := ⟨_, rfl⟩
 obtain ⟨t', ht'⟩ : ∃ t', t' = t := ⟨_, rfl⟩
 obtain ⟨x', hx'⟩ : ∃ x', x' = x := ⟨_, rfl⟩
 have HFR : Hid (Sub FR F w ∧ Fr F w wR) := by
  show _ ∧ _
  rw [hwR, hFRe]; exact ⟨Sub.refl _ _, (HA.out.1.same f02).nil⟩
 have HR : Hid (LRw u wR FR t' ∧ Coh r.S r.Q t' ∧ kindS r.S r.Q key = x' ∧ hOf t'.LS key = y ∧ hOf t'.LQ key = z) := by
  show _ ∧ _
  rw [hwR, hFRe, hrs, ht', hx']
  obtain ⟨a1, a2, a3, a4, a5, a6⟩ := HST.out
  exact ⟨a1.fr0 (HA.out.1.same f02), a2, a4, a5, a6⟩
 have HEB : Hid (EB wR w1.heap.size (x', y, z)) := by
  show EB _ _ _
  rw [hwR, hx']; exact f02.get HA.out.2.1 (by simp)
 have HGN : Hid (Gone w wR (.slice none 0 0) [] ∧ Dis (Value.slice none 0 0).ownBlock.toList FR) := ⟨Gone.nil _ _, by intro b hb; simp [Value.ownBlock] at hb⟩
 rw [← hrs] at HRI
 replace HUC : Hid (u.c = s.c ∧ u.most = s.most ∧ r.c = s.c ∧ s.c ≤ 1024) := by
  show _ ∧ _
  rw [hrs]
  obtain ⟨a, b, _, d⟩ := HUC.out
  exact ⟨a, b, rfl, d⟩
 rw [← hwR]
 have HMS2 : Hid (missL r key = MS) := by show _ = _; rw [hrs]; exact HMS.out
 clear k0 k4 f2 f02 hwR hFRe hrs ht' hx' kb0 kb1 kb2
 obtain ⟨_, k1, _, _, _, k5, _⟩ := HR.out.1.cells
 rw [HR.out.2.1.h] at k5
 obtain ⟨kb0, kb1, kb2⟩ := HEB.out.cells
 obtain ⟨hh, hhe⟩ : ∃ n, cntS r.S 1 = n := ⟨_, rfl⟩
 rw [hhe] at k5
 have HHE := Lib.hid hhe
 have hucb : u.c ≤ 1024 := by rw [HUC.out.1]; exact HUC.out.2.2.2
 obtain ⟨aa, bb1⟩ := heats_inv HRI.out.si hz HRI.out.hm
 have IVH : Hid (SInv (r.heats key).S (r.heats key).Q ∧ (r.heats key).S.length + (r.heats key).Q.length ≤ 40000 ∧ cntS (r.heats key).S 3 ≤ u.c + 1) := by
  have h1 := aa.len
  have h2 := cutQ_le r.Q key
  have h3 := cntS_cut_le r.S key 1
  have h4 := HRI.out.res
  have h5 := HRI.out.gh
  have h6 := HRI.out.c2
  have h7 : u.c = r.c := by rw [HUC.out.1, HUC.out.2.2.1]
  have h8 : r.most ≤ 1024 := by unfold Lirs.most; omega
  exact ⟨aa, by omega, by omega⟩
 obtain ⟨cc1, dd1⟩ := chills_inv HRI.out.si hz (key := key)
 have IVC : Hid (SInv (r.chills key).S (r.chills key).Q ∧ (r.chills key).S.length + (r.chills key).Q.length ≤ 40000 ∧ cntS (r.chills key).S 3 ≤ u.c + 1) := by
  have h1 := cc1.len
  have h2 := cutQ_le r.Q key
  have h3 := cntS_cut_le r.S key 1
  have h33 := cntS_cut_le r.S key 3
  have h4 := HRI.out.res
  have h5 := HRI.out.gh
  have h6 := HRI.out.c2
  have h7 : u.c = r.c := by rw [HUC.out.1, HUC.out.2.2.1]
  exact ⟨cc1, by omega, by omega⟩
 have hbd : r.S.length + r.Q.length ≤ 10000 := by
  have h1 := HRI.out.si.len
  have h4 := HRI.out.res
  have h5 := HRI.out.gh
  have h6 := HRI.out.c2
  omega
 have hmb : r.most ≤ 1024 := by have := HRI.out.c2; unfold Lirs.most; omega
 have hmr : u.most = r.most := by rw [HUC.out.2.1]; unfold Lirs.most; rw [HUC.out.2.2.1]
 have hhb : hh ≤ 1024 := by rw [← hhe]; have := HRI.out.hm; omega
 have CHE := Lib.hid fun (W : World) (f : Fr [] wR W) => lheats (HR.out.1.fr0 f) HR.out.2.1 HRI.out.si (by omega) hmr hmb key hz x' HR.out.2.2.2.1 HR.out.2.2.2.2
 have CCH := Lib.hid fun (W : World) (f : Fr [] wR W) => lchills (HR.out.1.fr0 f) HR.out.2.1 HRI.out.si (by omega) key hz x' HR.out.2.2.2.1 HR.out.2.2.2.2
 have h3e : x' = 3 ↔ stS r.S key = 3 := by rw [← HR.out.2.2.1]; exact kindS_ghost HRI.out.si key
 have H3E := Lib.hid h3e
 have HMR := Lib.hid hmr
 have hmob : u.most ≤ 1024 := by omega
 clear aa bb1 cc1 dd1 hbd hmb hmr hhe h3e
 by_cases hlt : hh < u.most
 ·have q1 : (hh : Int) < (u.most : Int) := by omega
  have hif : (if cntS r.S 1 < r.most ∨ stS r.S key = 3 then r.heats key else r.chills key) = r.heats key := by rw [if_pos (.inl (by rw [HHE.out, ← HMR.out]; exact hlt))]
  have HIF := Lib.hid hif
  clear hif
  go_wp2
  go_quiet (fail)
  have HDR : Hid (Fr [] wR (wR.drewN nq)) := (Fr.refl [] _).drewN _
  go_wp2_with fail
  refine (CHE.out _ HDR.out).mono ?_
  rintro en wX ⟨rfl, FX, hX, sX, fX⟩
  have hri := HR.out
  have HFO := Lib.hid (lforgets hX IVH.out.1 IVH.out.2.1 hucb IVH.out.2.2)
  have HFX := Lib.hid (And.intro sX fX)
  clear hX sX fX hri
  go_wp2_with fail
  refine HFO.out.mono ?_
  rintro en wY ⟨rfl, FY, hY, sY, fY⟩
  have HPR := Lib.hid (lprunes hY (IVH.out.1.sub (forget_sub _ _)) (by have := (forget_sub u.c (r.heats key).S).length_le; have := IVH.out.2.1; omega))
  have HFY := Lib.hid (And.intro (HFX.out.1.fr HFX.out.2 sY) (HFX.out.2.via HFX.out.1 fY))
  clear hY sY fY
  go_wp2_with fail
  refine HPR.out.mono ?_
  rintro en wZ ⟨rfl, FZ, hZ, sZ, fZ⟩
  have HZ := Lib.hid (And.intro hZ (And.intro (HFY.out.1.fr HFY.out.2 sZ) (HFY.out.2.via HFY.out.1 fZ)))
  clear hZ sZ fZ
  go_wp2
  go_ret2
  refine ⟨_, FZ, rfl, ⟨HGN.out.1.1.fr (HDR.out.nil.same HZ.out.2.2) HGN.out.2, HGN.out.1.2⟩, ?_, HFR.out.1.fr HFR.out.2 (HZ.out.2.1.old HDR.out.size), HFR.out.2.via HFR.out.1 (HDR.out.nil.same HZ.out.2.2), ?_⟩
  ·have hms : MS = { S := pruneS (forgetS u.c (r.heats key).S), Q := (r.heats key).Q, c := (r.heats key).c } := by
    rw [← HMS2.out]
    unfold missL
    rw [HIF.out]
    unfold Lirs.forgets Lirs.prunes
    rw [show (r.heats key).c = s.c by rw [(heats_inv HRI.out.si hz HRI.out.hm).2.2.1, HUC.out.2.2.1], ← HUC.out.1]
   rw [hms]
   exact HZ.out.1
  ·intro b hb hx
   rcases HZ.out.2.1 b hx with h | h
   ·exact HGN.out.2 b hb h
   ·have := HGN.out.1.1.lt b hb; have := HDR.out.size; omega
 ·have q1 : decide ((hh : Int) < (u.most : Int)) = false := decide_eq_false (by omega)
  have q2 : decide (hh < u.most) = false := decide_eq_false hlt
  by_cases hx3 : x' = 3
  ·subst hx3
   have hif : (if cntS r.S 1 < r.most ∨ stS r.S key = 3 then r.heats key else r.chills key) = r.heats key := by rw [if_pos (.inr (H3E.out.1 rfl))]
   have HIF := Lib.hid hif
   clear hif
   go_wp2
   go_quiet (fail)
   have HDR : Hid (Fr [] wR (wR.drewN nq)) := (Fr.refl [] _).drewN _
   go_wp2_with fail
   refine (CHE.out _ HDR.out).mono ?_
   rintro en wX ⟨rfl, FX, hX, sX, fX⟩
   have hri := HR.out
   have HFO := Lib.hid (lforgets hX IVH.out.1 IVH.out.2.1 hucb IVH.out.2.2)
   have HFX := Lib.hid (And.intro sX fX)
   clear hX sX fX hri
   go_wp2_with fail
   refine HFO.out.mono ?_
   rintro en wY ⟨rfl, FY, hY, sY, fY⟩
   have HPR := Lib.hid (lprunes hY (IVH.out.1.sub (forget_sub _ _)) (by have := (forget_sub u.c (r.heats key).S).length_le; have := IVH.out.2.1; omega))
   have HFY := Lib.hid (And.intro (HFX.out.1.fr HFX.out.2 sY) (HFX.out.2.via HFX.out.1 fY))
   clear hY sY fY
   go_wp2_with fail
   refine HPR.out.mono ?_
   rintro en wZ ⟨rfl, FZ, hZ, sZ, fZ⟩
   have HZ := Lib.hid (And.intro hZ (And.intro (HFY.out.1.fr HFY.out.2 sZ) (HFY.out.2.via HFY.out.1 fZ)))
   clear hZ sZ fZ
   go_wp2
   go_ret2
   refine ⟨_, FZ, rfl, ⟨HGN.out.1.1.fr (HDR.out.nil.same HZ.out.2.2) HGN.out.2, HGN.out.1.2⟩, ?_, HFR.out.1.fr HFR.out.2 (HZ.out.2.1.old HDR.out.size), HFR.out.2.via HFR.out.1 (HDR.out.nil.same HZ.out.2.2), ?_⟩
   ·have hms : MS = { S := pruneS (forgetS u.c (r.heats key).S), Q := (r.heats key).Q, c := (r.heats key).c } := by
     rw [← HMS2.out]
     unfold missL
     rw [HIF.out]
     unfold Lirs.forgets Lirs.prunes
     rw [show (r.heats key).c = s.c by rw [(heats_inv HRI.out.si hz HRI.out.hm).2.2.1, HUC.out.2.2.1], ← HUC.out.1]
    rw [hms]
    exact HZ.out.1
   ·intro b hb hx
    rcases HZ.out.2.1 b hx with h | h
    ·exact HGN.out.2 b hb h
    ·have := HGN.out.1.1.lt b hb; have := HDR.out.size; omega
  ·have b3 : ((x' : Int) == 3) = false := by rw [beq_eq_false_iff_ne]; omega
   have hif : (if cntS r.S 1 < r.most ∨ stS r.S key = 3 then r.heats key else r.chills key) = r.chills key := by
    rw [if_neg]
    rintro (h | h)
    ·rw [HHE.out, ← HMR.out] at h; exact hlt h
    ·exact hx3 (H3E.out.2 h)
   have HIF := Lib.hid hif
   clear hif
   go_wp2
   go_quiet (fail)
   have HDR : Hid (Fr [] wR (wR.drewN nq)) := (Fr.refl [] _).drewN _
   go_wp2_with fail
   refine (CCH.out _ HDR.out).mono ?_
   rintro en wX ⟨rfl, FX, hX, sX, fX⟩
   have hri := HR.out
   have HFO := Lib.hid (lforgets hX IVC.out.1 IVC.out.2.1 hucb IVC.out.2.2)
   have HFX := Lib.hid (And.intro sX fX)
   clear hX sX fX hri
   go_wp2_with fail
   refine HFO.out.mono ?_
   rintro en wY ⟨rfl, FY, hY, sY, fY⟩
   have HPR := Lib.hid (lprunes hY (IVC.out.1.sub (forget_sub _ _)) (by have := (forget_sub u.c (r.chills key).S).length_le; have := IVC.out.2.1; omega))
   have HFY := Lib.hid (And.intro (HFX.out.1.fr HFX.out.2 sY) (HFX.out.2.via HFX.out.1 fY))
   clear hY sY fY
   go_wp2_with fail
   refine HPR.out.mono ?_
   rintro en wZ ⟨rfl, FZ, hZ, sZ, fZ⟩
   have HZ := Lib.hid (And.intro hZ (And.intro (HFY.out.1.fr HFY.out.2 sZ) (HFY.out.2.via HFY.out.1 fZ)))
   clear hZ sZ fZ
   go_wp2
   go_ret2
   refine ⟨_, FZ, rfl, ⟨HGN.out.1.1.fr (HDR.out.nil.same HZ.out.2.2) HGN.out.2, HGN.out.1.2⟩, ?_, HFR.out.1.fr HFR.out.2 (HZ.out.2.1.old HDR.out.size), HFR.out.2.via HFR.out.1 (HDR.out.nil.same HZ.out.2.2), ?_⟩
   ·have hms : MS = { S := pruneS (forgetS u.c (r.chills key).S), Q := (r.chills key).Q, c := (r.chills key).c } := by
     rw [← HMS2.out]
     unfold missL
     rw [HIF.out]
     unfold Lirs.forgets Lirs.prunes
     rw [show (r.chills key).c = s.c from HUC.out.2.2.1, ← HUC.out.1]
    rw [hms]
    exact HZ.out.1
   ·intro b hb hx
    rcases HZ.out.2.1 b hx with h | h
    ·exact HGN.out.2 b hb h
    ·have := HGN.out.1.1.lt b hb; have := HDR.out.size; omega
set_option maxHeartbeats 4000000 in
set_option maxRecDepth 100000 in
theorem laccess_missB (Ht : LRw u w F t) (hc : Coh s.S s.Q t) (hi : s.Inv) (huc : u.c = s.c) (hmo : u.most = s.most) (key : ByteArray) (hz : key.size ≤ maxLen) {x y z : Nat} (hx : kindS s.S s.Q key = x) (hy : hOf t.LS key = y) (hzz : hOf t.LQ key = z) (hx1 : x ≠ 1) (hx2 : x ≠ 2) (hlt0 : ¬ s.len < s.c) :
  Calls Tryz.prog 338 #[.pointer (some ⟨u.e, 0, none⟩), .string key] w (LARet u w F (false, [s.evict.1], missL s.evict.2.2 key)) := by
 obtain ⟨i0, hii, hz0, hz1, hz2⟩ := info_parts2 infoStr
 obtain ⟨MS, hMS⟩ : ∃ m, missL s.evict.2.2 key = m := ⟨_, rfl⟩
 rw [hMS]
 obtain ⟨r, hr⟩ : ∃ r, s.evict.2.2 = r := ⟨_, rfl⟩
 obtain ⟨kk, hkk⟩ : ∃ k, s.evict.1 = k := ⟨_, rfl⟩
 rw [hkk]
 rw [hr] at hMS
 obtain ⟨e1, e2, e3⟩ := hi.evict
 rw [hr] at e1 e2 e3
 have HMS2 := Lib.hid hMS
 have HRI := Lib.hid e1
 have HUC := Lib.hid (And.intro huc (And.intro hmo (And.intro e2 hi.c2)))
 have HEV := Lib.hid fun (W : World) (f : Fr [] w W) => levict (s := s) ⟨t, Ht.fr0 f, hc⟩ hi huc
 have hb2 : s.evict.2.1 = true := by
  unfold Lirs.evict
  rw [if_neg (by have := hi.c1; omega)]
 have HEQ := Lib.hid (And.intro hr (And.intro hkk hb2))
 clear huc hmo hMS hr hkk e1 e2 e3 hb2
 have hslen := hi.si.len
 have hres := hi.res
 have hgh := hi.gh
 have hhm := hi.hm
 have hcb := hi.c2
 have hsi := hi.si
 have hmb : s.most ≤ 1024 := by unfold Lirs.most; omega
 have hbd : s.S.length + s.Q.length ≤ 10000 := by omega
 obtain ⟨k0, _, _, _, k4, _, _⟩ := Ht.cells
 have hel : u.e < w.heap.size := Ht.lt _ Ht.ein
 have hget := hc.get hsi key
 rw [hx, hy, hzz] at hget
 have HGET := Lib.hid (Ht.get key hz hget)
 obtain ⟨n, hn⟩ : ∃ n, s.Q.length + cntS s.S 1 = n := ⟨_, rfl⟩
 have hnb : n ≤ 1024 := by omega
 have HLN := Lib.hid fun (W : World) (f : Fr [] w W) => llen ⟨t, Ht.fr0 f, hc⟩ (by omega) hn
 have HN := Lib.hid hn
 have HST := Lib.hid (And.intro Ht (And.intro hc (And.intro hi (And.intro hx (And.intro hy hzz)))))
 have hlF := Lib.hid Ht.lt
 have b1 : ((x : Int) == 1) = false := by rw [beq_eq_false_iff_ne]; omega
 have b2 : ((x : Int) == 2) = false := by rw [beq_eq_false_iff_ne]; omega
 clear Ht hc hi hx hy hzz hslen hres hgh hhm hcb hsi hmb hbd hget hn
 go_enter Tryz.func338, Tryz.ntmps338
 go_wp2_with fail
 refine HGET.out.mono ?_
 rintro en w1 ⟨⟨bb, rfl⟩, f1⟩
 have fa : Fr [] w (w1.alloc (.cells #[.int .i64 x, .int .i64 y, .int .i64 z] 201)) := f1.alloc _
 have hb0 : EB (w1.alloc (.cells #[.int .i64 x, .int .i64 y, .int .i64 z] 201)) w1.heap.size (x, y, z) := block_alloc_new _ _
 have hsz1 := f1.size
 have hel1 : u.e < w1.heap.size := by omega
 have hnF : w1.heap.size ∉ F := not_ge hlF.out hsz1
 replace k0 := cell_fr fa k0 (by simp)
 replace k4 := cell_fr fa k4 (by simp)
 obtain ⟨kb0, kb1, kb2⟩ := hb0.cells
 have HA := Lib.hid (And.intro fa (And.intro hb0 hnF))
 have hB0 : w1.heap.size < (w1.alloc (.cells #[.int .i64 x, .int .i64 y, .int .i64 z] 201)).heap.size := hb0.lt
 clear f1 fa hb0
 go_wp2_with fail
 generalize w1.alloc (.cells #[.int .i64 x, .int .i64 y, .int .i64 z] 201) = W0 at *
 have q0 : (u.c : Int) ≤ (n : Int) := by
  have := HN.out
  have := HUC.out.1
  simp only [Lirs.len] at hlt0
  omega
 first
  | (go_region_held3 (fun w' => w'.cell? ⟨u.e, 0, none⟩ = some (.int .i64 (u.c : Nat)))
    (first
     | exact k0
     | exact cell_fr (by first | assumption | exact (Fr.refl [] _).drew | exact Fr.alloc (by assumption) _ | exact ((Fr.refl [] _).drew).alloc _) k0 (by simp)
     | exact cell_fr (((Fr.refl [] _).drew).same (by assumption)) k0 (by simp))
    (first | (go_at_call 343; refine (HLN.out _ (HA.out.1.same (by first | assumption | exact (Fr.refl [] _).drew | exact Fr.alloc (by assumption) _ | exact ((Fr.refl [] _).drew).alloc _))).mono ?_; rintro en w2 ⟨rfl, f2⟩)))
  | fail
 have f02 : Fr [] W0 w2 := ((Fr.refl [] _).drew).same f2
 have HF02 := Lib.hid f02
 have hb2 : w1.heap.size < w2.heap.size := Nat.lt_of_lt_of_le hB0 f02.size
 clear k0 k4 f2 f02 kb0 kb1 kb2
 go_wp2_with fail
 refine (HEV.out _ (HA.out.1.same HF02.out)).mono ?_
 rintro en w3 ⟨hen, F3, h3, s3, f3⟩
 rw [HEQ.out.2.1, HEQ.out.2.2] at hen
 rw [HEQ.out.1] at h3
 subst hen
 have HEB3 : Hid (EB w3 w1.heap.size (x, y, z)) := f3.get (HF02.out.get HA.out.2.1 (by simp)) HA.out.2.2
 have hB3 : w1.heap.size ∉ F3 := fun hx => by
  rcases s3 _ hx with h | h
  ·exact HA.out.2.2 h
  ·omega
 have H3 := Lib.hid (And.intro h3 (And.intro (s3.old (HA.out.1.same HF02.out).size) ((HA.out.1.same HF02.out).nil.same f3)))
 have hs3 := f3.size
 clear h3 s3 f3
 go_wp2_with (at_builtin; refine wpList_app rfl _ _ _ _ rfl Tryz.underlying22 hii hz0 hz1 hz2 rfl (.slice none 0 0) _ 0 1 [] [.string kk] rfl rfl ?hsl ?hone ?src ?c3 ?c4 _ rfl ?_)
 case hsl => exact Sl.nil _ _ _
 case hone => intro v hv; simp at hv
 case src => exact Src.built Tryz.underlying22 _ [.string kk] _ _ (by simp) rfl (by simp [Value.oneCell'])
 case c3 => unfold maxLen; omega
 case c4 => omega
 intro b' cp w4 hs4 hf4 hat
 have f34 : Fr [] w3 w4 := ((Fr.refl [] w3).alloc (.cells #[.string kk] 9)).same (hf4.mono (by intro b hb; simp [Value.ownBlock] at hb))
 have hgo4 : Gone w w4 (.slice b' 1 cp) [kk] := by
  refine ⟨hs4, fun q hq => ?_⟩
  rcases hat with h | h
  ·rw [h] at hq; simp [Value.ownBlock] at hq
  ·rw [h] at hq; simp at hq; have := H3.out.2.2.size; omega
 have hd4 : ∀ q, q ∈ (Value.slice b' 1 cp).ownBlock.toList → w3.heap.size ≤ q := fun q hq => by
  rcases hat with h | h
  ·rw [h] at hq; simp [Value.ownBlock] at hq
  ·rw [h] at hq; simp at hq; omega
 have HG4 := Lib.hid (And.intro hgo4 (And.intro hd4 f34))
 clear hs4 hf4 hat hgo4 hd4 f34
 obtain ⟨t', Ht', hc'⟩ := H3.out.1
 have hget2 := hc'.get HRI.out.si key
 obtain ⟨x', hx'⟩ : ∃ x, kindS r.S r.Q key = x := ⟨_, rfl⟩
 obtain ⟨y', hy'⟩ : ∃ y, hOf t'.LS key = y := ⟨_, rfl⟩
 obtain ⟨z', hz'⟩ : ∃ y, hOf t'.LQ key = y := ⟨_, rfl⟩
 rw [hx', hy', hz'] at hget2
 obtain ⟨_, _, _, _, k4, _, _⟩ := (Ht'.fr0 HG4.out.2.2).cells
 have HGET2 := Lib.hid ((Ht'.fr0 HG4.out.2.2).get key hz hget2)
 have HT' := Lib.hid (And.intro Ht' (And.intro hc' (And.intro hx' (And.intro hy' hz'))))
 have hel4 : u.e < w4.heap.size := (Ht'.fr0 HG4.out.2.2).lt _ Ht'.ein
 clear Ht' hc' hx' hy' hz' hget2
 go_wp2_with fail
 refine HGET2.out.mono ?_
 rintro en w5 ⟨⟨bb2, rfl⟩, f5⟩
 have hb5 : EB w5 w1.heap.size (x, y, z) := f5.get (HG4.out.2.2.get HEB3.out (by simp)) (by simp)
 obtain ⟨kb0, kb1, kb2⟩ := hb5.cells
 have zb := fun i => hb5.fz i
 have HB5 := Lib.hid (And.intro hb5 (HG4.out.2.2.same f5))
 have HGO5 := Lib.hid (HG4.out.1.fr0 f5)
 clear hb5 f5 k4
 go_wp2
 have hbR : EB (((w5.setCell ⟨w1.heap.size, 0, none⟩ (.int .i64 (x' : Nat))).setCell ⟨w1.heap.size, 1, none⟩ (.int .i64 (y' : Nat))).setCell ⟨w1.heap.size, 2, none⟩ (.int .i64 (z' : Nat))) w1.heap.size (x', y', z') := ((HB5.out.1.setI x').setS y').setQ z'
 have hfR : Fr [w1.heap.size] w5 (((w5.setCell ⟨w1.heap.size, 0, none⟩ (.int .i64 (x' : Nat))).setCell ⟨w1.heap.size, 1, none⟩ (.int .i64 (y' : Nat))).setCell ⟨w1.heap.size, 2, none⟩ (.int .i64 (z' : Nat))) := (((Fr.refl _ _).setCell (by simp) _).setCell (by simp) _).setCell (by simp) _
 generalize ((w5.setCell ⟨w1.heap.size, 0, none⟩ (.int .i64 (x' : Nat))).setCell ⟨w1.heap.size, 1, none⟩ (.int .i64 (y' : Nat))).setCell ⟨w1.heap.size, 2, none⟩ (.int .i64 (z' : Nat)) = wR at *
 obtain ⟨FR, hFRe⟩ : ∃ FR, FR = F3 := ⟨_, rfl⟩
 have hdB : ∀ {A : List Nat}, w1.heap.size ∉ A → Dis A [w1.heap.size] := fun hn b hb hx => by simp at hx; subst hx; exact hn hb
 have HFR : Hid (Sub FR F w ∧ Fr F w wR) := by
  show _ ∧ _
  rw [hFRe]
  refine ⟨H3.out.2.1, (H3.out.2.2.same HB5.out.2.nil).trans hfR (fun _ h _ => h) (fun q hq hl => ?_)⟩
  simp at hq
  omega
 have HR : Hid (LRw u wR FR t' ∧ Coh r.S r.Q t' ∧ kindS r.S r.Q key = x' ∧ hOf t'.LS key = y' ∧ hOf t'.LQ key = z') := by
  show _ ∧ _
  rw [hFRe]
  exact ⟨(HT'.out.1.fr0 HB5.out.2).fr hfR (hdB hB3), HT'.out.2⟩
 have HEB : Hid (EB wR w1.heap.size (x', y', z')) := hbR
 have HGN : Hid (Gone w wR (.slice b' 1 cp) [kk] ∧ Dis (Value.slice b' 1 cp).ownBlock.toList FR) := by
  show _ ∧ _
  refine ⟨⟨HGO5.out.1.fr hfR (hdB fun hx => ?_), HGO5.out.2⟩, fun q hq hx => ?_⟩
  ·have := HG4.out.2.1 _ hx; omega
  ·rw [hFRe] at hx
   have := HG4.out.2.1 q hq
   have := HT'.out.1.lt q hx
   omega
 clear hbR hfR hFRe hdB kb0 kb1 kb2 zb
 obtain ⟨_, k1, _, _, _, k5, _⟩ := HR.out.1.cells
 rw [HR.out.2.1.h] at k5
 obtain ⟨kb0, kb1, kb2⟩ := HEB.out.cells
 obtain ⟨hh, hhe⟩ : ∃ n, cntS r.S 1 = n := ⟨_, rfl⟩
 rw [hhe] at k5
 have HHE := Lib.hid hhe
 have hucb : u.c ≤ 1024 := by rw [HUC.out.1]; exact HUC.out.2.2.2
 obtain ⟨aa, bb1⟩ := heats_inv HRI.out.si hz HRI.out.hm
 have IVH : Hid (SInv (r.heats key).S (r.heats key).Q ∧ (r.heats key).S.length + (r.heats key).Q.length ≤ 40000 ∧ cntS (r.heats key).S 3 ≤ u.c + 1) := by
  have h1 := aa.len
  have h2 := cutQ_le r.Q key
  have h3 := cntS_cut_le r.S key 1
  have h4 := HRI.out.res
  have h5 := HRI.out.gh
  have h6 := HRI.out.c2
  have h7 : u.c = r.c := by rw [HUC.out.1, HUC.out.2.2.1]
  have h8 : r.most ≤ 1024 := by unfold Lirs.most; omega
  exact ⟨aa, by omega, by omega⟩
 obtain ⟨cc1, dd1⟩ := chills_inv HRI.out.si hz (key := key)
 have IVC : Hid (SInv (r.chills key).S (r.chills key).Q ∧ (r.chills key).S.length + (r.chills key).Q.length ≤ 40000 ∧ cntS (r.chills key).S 3 ≤ u.c + 1) := by
  have h1 := cc1.len
  have h2 := cutQ_le r.Q key
  have h3 := cntS_cut_le r.S key 1
  have h33 := cntS_cut_le r.S key 3
  have h4 := HRI.out.res
  have h5 := HRI.out.gh
  have h6 := HRI.out.c2
  have h7 : u.c = r.c := by rw [HUC.out.1, HUC.out.2.2.1]
  exact ⟨cc1, by omega, by omega⟩
 have hbd : r.S.length + r.Q.length ≤ 10000 := by
  have h1 := HRI.out.si.len
  have h4 := HRI.out.res
  have h5 := HRI.out.gh
  have h6 := HRI.out.c2
  omega
 have hmb : r.most ≤ 1024 := by have := HRI.out.c2; unfold Lirs.most; omega
 have hmr : u.most = r.most := by rw [HUC.out.2.1]; unfold Lirs.most; rw [HUC.out.2.2.1]
 have hhb : hh ≤ 1024 := by rw [← hhe]; have := HRI.out.hm; omega
 have CHE := Lib.hid fun (W : World) (f : Fr [] wR W) => lheats (HR.out.1.fr0 f) HR.out.2.1 HRI.out.si (by omega) hmr hmb key hz x' HR.out.2.2.2.1 HR.out.2.2.2.2
 have CCH := Lib.hid fun (W : World) (f : Fr [] wR W) => lchills (HR.out.1.fr0 f) HR.out.2.1 HRI.out.si (by omega) key hz x' HR.out.2.2.2.1 HR.out.2.2.2.2
 have h3e : x' = 3 ↔ stS r.S key = 3 := by rw [← HR.out.2.2.1]; exact kindS_ghost HRI.out.si key
 have H3E := Lib.hid h3e
 have HMR := Lib.hid hmr
 have hmob : u.most ≤ 1024 := by omega
 clear aa bb1 cc1 dd1 hbd hmb hmr hhe h3e
 by_cases hlt : hh < u.most
 ·have q1 : (hh : Int) < (u.most : Int) := by omega
  have hif : (if cntS r.S 1 < r.most ∨ stS r.S key = 3 then r.heats key else r.chills key) = r.heats key := by rw [if_pos (.inl (by rw [HHE.out, ← HMR.out]; exact hlt))]
  have HIF := Lib.hid hif
  clear hif
  go_wp2
  go_quiet (fail)
  have HDR : Hid (Fr [] wR (wR.drewN nq)) := (Fr.refl [] _).drewN _
  go_wp2_with fail
  refine (CHE.out _ HDR.out).mono ?_
  rintro en wX ⟨rfl, FX, hX, sX, fX⟩
  have hri := HR.out
  have HFO := Lib.hid (lforgets hX IVH.out.1 IVH.out.2.1 hucb IVH.out.2.2)
  have HFX := Lib.hid (And.intro sX fX)
  clear hX sX fX hri
  go_wp2_with fail
  refine HFO.out.mono ?_
  rintro en wY ⟨rfl, FY, hY, sY, fY⟩
  have HPR := Lib.hid (lprunes hY (IVH.out.1.sub (forget_sub _ _)) (by have := (forget_sub u.c (r.heats key).S).length_le; have := IVH.out.2.1; omega))
  have HFY := Lib.hid (And.intro (HFX.out.1.fr HFX.out.2 sY) (HFX.out.2.via HFX.out.1 fY))
  clear hY sY fY
  go_wp2_with fail
  refine HPR.out.mono ?_
  rintro en wZ ⟨rfl, FZ, hZ, sZ, fZ⟩
  have HZ := Lib.hid (And.intro hZ (And.intro (HFY.out.1.fr HFY.out.2 sZ) (HFY.out.2.via HFY.out.1 fZ)))
  clear hZ sZ fZ
  go_wp2
  go_ret2
  refine ⟨_, FZ, rfl, ⟨HGN.out.1.1.fr (HDR.out.nil.same HZ.out.2.2) HGN.out.2, HGN.out.1.2⟩, ?_, HFR.out.1.fr HFR.out.2 (HZ.out.2.1.old HDR.out.size), HFR.out.2.via HFR.out.1 (HDR.out.nil.same HZ.out.2.2), ?_⟩
  ·have hms : MS = { S := pruneS (forgetS u.c (r.heats key).S), Q := (r.heats key).Q, c := (r.heats key).c } := by
    rw [← HMS2.out]
    unfold missL
    rw [HIF.out]
    unfold Lirs.forgets Lirs.prunes
    rw [show (r.heats key).c = s.c by rw [(heats_inv HRI.out.si hz HRI.out.hm).2.2.1, HUC.out.2.2.1], ← HUC.out.1]
   rw [hms]
   exact HZ.out.1
  ·intro b hb hx
   rcases HZ.out.2.1 b hx with h | h
   ·exact HGN.out.2 b hb h
   ·have := HGN.out.1.1.lt b hb; have := HDR.out.size; omega
 ·have q1 : decide ((hh : Int) < (u.most : Int)) = false := decide_eq_false (by omega)
  have q2 : decide (hh < u.most) = false := decide_eq_false hlt
  by_cases hx3 : x' = 3
  ·subst hx3
   have hif : (if cntS r.S 1 < r.most ∨ stS r.S key = 3 then r.heats key else r.chills key) = r.heats key := by rw [if_pos (.inr (H3E.out.1 rfl))]
   have HIF := Lib.hid hif
   clear hif
   go_wp2
   go_quiet (fail)
   have HDR : Hid (Fr [] wR (wR.drewN nq)) := (Fr.refl [] _).drewN _
   go_wp2_with fail
   refine (CHE.out _ HDR.out).mono ?_
   rintro en wX ⟨rfl, FX, hX, sX, fX⟩
   have hri := HR.out
   have HFO := Lib.hid (lforgets hX IVH.out.1 IVH.out.2.1 hucb IVH.out.2.2)
   have HFX := Lib.hid (And.intro sX fX)
   clear hX sX fX hri
   go_wp2_with fail
   refine HFO.out.mono ?_
   rintro en wY ⟨rfl, FY, hY, sY, fY⟩
   have HPR := Lib.hid (lprunes hY (IVH.out.1.sub (forget_sub _ _)) (by have := (forget_sub u.c (r.heats key).S).length_le; have := IVH.out.2.1; omega))
   have HFY := Lib.hid (And.intro (HFX.out.1.fr HFX.out.2 sY) (HFX.out.2.via HFX.out.1 fY))
   clear hY sY fY
   go_wp2_with fail
   refine HPR.out.mono ?_
   rintro en wZ ⟨rfl, FZ, hZ, sZ, fZ⟩
   have HZ := Lib.hid (And.intro hZ (And.intro (HFY.out.1.fr HFY.out.2 sZ) (HFY.out.2.via HFY.out.1 fZ)))
   clear hZ sZ fZ
   go_wp2
   go_ret2
   refine ⟨_, FZ, rfl, ⟨HGN.out.1.1.fr (HDR.out.nil.same HZ.out.2.2) HGN.out.2, HGN.out.1.2⟩, ?_, HFR.out.1.fr HFR.out.2 (HZ.out.2.1.old HDR.out.size), HFR.out.2.via HFR.out.1 (HDR.out.nil.same HZ.out.2.2), ?_⟩
   ·have hms : MS = { S := pruneS (forgetS u.c (r.heats key).S), Q := (r.heats key).Q, c := (r.heats key).c } := by
     rw [← HMS2.out]
     unfold missL
     rw [HIF.out]
     unfold Lirs.forgets Lirs.prunes
     rw [show (r.heats key).c = s.c by rw [(heats_inv HRI.out.si hz HRI.out.hm).2.2.1, HUC.out.2.2.1], ← HUC.out.1]
    rw [hms]
    exact HZ.out.1
   ·intro b hb hx
    rcases HZ.out.2.1 b hx with h | h
    ·exact HGN.out.2 b hb h
    ·have := HGN.out.1.1.lt b hb; have := HDR.out.size; omega
  ·have b3 : ((x' : Int) == 3) = false := by rw [beq_eq_false_iff_ne]; omega
   have hif : (if cntS r.S 1 < r.most ∨ stS r.S key = 3 then r.heats key else r.chills key) = r.chills key := by
    rw [if_neg]
    rintro (h | h)
    ·rw [HHE.out, ← HMR.out] at h; exact hlt h
    ·exact hx3 (H3E.out.2 h)
   have HIF := Lib.hid hif
   clear hif
   go_wp2
   go_quiet (fail)
   have HDR : Hid (Fr [] wR (wR.drewN nq)) := (Fr.refl [] _).drewN _
   go_wp2_with fail
   refine (CCH.out _ HDR.out).mono ?_
   rintro en wX ⟨rfl, FX, hX, sX, fX⟩
   have hri := HR.out
   have HFO := Lib.hid (lforgets hX IVC.out.1 IVC.out.2.1 hucb IVC.out.2.2)
   have HFX := Lib.hid (And.intro sX fX)
   clear hX sX fX hri
   go_wp2_with fail
   refine HFO.out.mono ?_
   rintro en wY ⟨rfl, FY, hY, sY, fY⟩
   have HPR := Lib.hid (lprunes hY (IVC.out.1.sub (forget_sub _ _)) (by have := (forget_sub u.c (r.chills key).S).length_le; have := IVC.out.2.1; omega))
   have HFY := Lib.hid (And.intro (HFX.out.1.fr HFX.out.2 sY) (HFX.out.2.via HFX.out.1 fY))
   clear hY sY fY
   go_wp2_with fail
   refine HPR.out.mono ?_
   rintro en wZ ⟨rfl, FZ, hZ, sZ, fZ⟩
   have HZ := Lib.hid (And.intro hZ (And.intro (HFY.out.1.fr HFY.out.2 sZ) (HFY.out.2.via HFY.out.1 fZ)))
   clear hZ sZ fZ
   go_wp2
   go_ret2
   refine ⟨_, FZ, rfl, ⟨HGN.out.1.1.fr (HDR.out.nil.same HZ.out.2.2) HGN.out.2, HGN.out.1.2⟩, ?_, HFR.out.1.fr HFR.out.2 (HZ.out.2.1.old HDR.out.size), HFR.out.2.via HFR.out.1 (HDR.out.nil.same HZ.out.2.2), ?_⟩
   ·have hms : MS = { S := pruneS (forgetS u.c (r.chills key).S), Q := (r.chills key).Q, c := (r.chills key).c } := by
     rw [← HMS2.out]
     unfold missL
     rw [HIF.out]
     unfold Lirs.forgets Lirs.prunes
     rw [show (r.chills key).c = s.c from HUC.out.2.2.1, ← HUC.out.1]
    rw [hms]
    exact HZ.out.1
   ·intro b hb hx
    rcases HZ.out.2.1 b hx with h | h
    ·exact HGN.out.2 b hb h
    ·have := HGN.out.1.1.lt b hb; have := HDR.out.size; omega
end
end Go.Proofs.YtphlancijlljcaaGreat
