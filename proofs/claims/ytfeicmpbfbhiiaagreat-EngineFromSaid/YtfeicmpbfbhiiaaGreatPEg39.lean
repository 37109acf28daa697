/- Texts of a proof about the given program, those parts that this claim reaches. -/
import Derived.Test.YtfeicmpbfbhiiaaGreatPEg38
import Derived.Test.YtfeicmpbfbhiiaaGreatPEg37
set_option linter.unusedVariables false
set_option linter.unusedSimpArgs false
namespace Go.Proofs.YtfeicmpbfbhiiaaGreat
open Go.RowKit
open Act renaming put → pE0
open List renaming getElem_toArray → pE1, getElem_cons_succ → pE2, getElem_cons_zero → pE3, setIfInBounds_toArray → pE4, set_cons_zero → pE5, set_cons_succ → pE6
attribute [local go_sem ↓] Go.wp_at_zero Go.wp_at_succ
def S3.text (s : S3) : ByteArray := joinB [textB ⟨#[83]⟩ ((cellsOf (s.K 0) s.C).map cellT), textB ⟨#[77]⟩ ((cellsOf (s.K 1) s.C).map cellT), textB ⟨#[71]⟩ (s.K 2)] ⟨#[59]⟩
theorem cellT_short {l : List ByteArray} {C : Cnt} (h : Short 9000 l) : Short 10000 ((cellsOf l C).map cellT) := by
 intro k hk
 obtain ⟨x, hx, rfl⟩ := List.mem_map.1 hk
 obtain ⟨y, hy, rfl⟩ := List.mem_map.1 hx
 have := h y hy
 simp only [cellT, ByteArray.size_append]
 have e1 : (⟨#[47]⟩ : ByteArray).size = 1 := rfl
 have e2 : (⟨#[UInt8.ofNat (48 + cntOf C y)]⟩ : ByteArray).size = 1 := rfl
 omega
theorem Short.mono {n m : Nat} {l : List ByteArray} (h : Short n l) (hn : n ≤ m) : Short m l := fun k hk => Nat.le_trans (h k hk) hn
set_option maxHeartbeats 2000000 in
set_option maxRecDepth 100000 in
theorem r12state {w : World} {e : Nat} {F : List Nat} {s : S3} (H : RE12 w e F s) (hs : ∀ i, Short 9000 (s.K i)) : Calls Tryz.prog 69 #[ptr e] w fun en w' => en = .returned (.string s.text) ∧ Fr [] w w' := by
 have hlen := H.1.len
 have hi := H.1
 obtain ⟨_, V, h⟩ := H
 obtain ⟨a0, n0, c0, a1, n1, c1, a2, n2, c2, a3, n3, c3, hn0, hn1, hn2, hn3, h⟩ := h.lit (by decide)
 have hc0 : ∀ x ∈ cellsOf (s.K 0) s.C, x.2 ≤ 3 := fun x hx => by
  obtain ⟨y, hy, rfl⟩ := List.mem_map.1 hx
  exact cnt_le3 hi.ci y
 have HT0 := Lib.hid fun W (f : Fr [] w W) => ftextS ((h.fr f (fun _ _ => by simp)).s 0 (by decide)) (by rw [cellsOf_len]; exact Nat.le_trans (hlen 0) (by decide)) (cellT_short (hs 0)) hc0 ⟨#[83]⟩ (by decide)
 have hz0 := text_size (name := ⟨#[83]⟩) (by decide) (cellT_short (C := s.C) (hs 0)) (by rw [List.length_map, cellsOf_len]; exact Nat.le_trans (hlen 0) (by decide))
 have k0 := h.k (i := 0) (by decide)
 have hc1 : ∀ x ∈ cellsOf (s.K 1) s.C, x.2 ≤ 3 := fun x hx => by
  obtain ⟨y, hy, rfl⟩ := List.mem_map.1 hx
  exact cnt_le3 hi.ci y
 have HT1 := Lib.hid fun W (f : Fr [] w W) => ftextS ((h.fr f (fun _ _ => by simp)).s 1 (by decide)) (by rw [cellsOf_len]; exact Nat.le_trans (hlen 1) (by decide)) (cellT_short (hs 1)) hc1 ⟨#[77]⟩ (by decide)
 have hz1 := text_size (name := ⟨#[77]⟩) (by decide) (cellT_short (C := s.C) (hs 1)) (by rw [List.length_map, cellsOf_len]; exact Nat.le_trans (hlen 1) (by decide))
 have k1 := h.k (i := 1) (by decide)
 have k2 := h.k (i := 2) (by decide)
 have HR : Hid (SS w (.slice a2 n2 c2) (s.K 2)) := h.s 2 (by decide)
 have HN : Hid ((s.K 2).length = n2) := hn2
 have HSH := Lib.hid ((hs 2).mono (m := 10000) (by decide))
 have hl2 : n2 ≤ 5000 := by rw [← HN.out]; exact Nat.le_trans (hlen 2) (by decide)
 unfold S3.text
 obtain ⟨t0, ht0⟩ : ∃ t, textB ⟨#[83]⟩ ((cellsOf (s.K 0) s.C).map cellT) = t := ⟨_, rfl⟩
 obtain ⟨t1, ht1⟩ : ∃ t, textB ⟨#[77]⟩ ((cellsOf (s.K 1) s.C).map cellT) = t := ⟨_, rfl⟩
 rw [ht0] at hz0 HT0 ⊢
 rw [ht1] at hz1 HT1 ⊢
 rw [joinB_three]
 generalize s.K 2 = l at *
 have HNIL := Lib.hid (textB_nil ⟨#[71]⟩)
 have q0 : ¬ 9223372036854775807 < t0.size + 1 := by omega
 have q1 : ¬ 9223372036854775807 < t0.size + 1 + t1.size := by omega
 have q2 : ¬ 9223372036854775807 < t0.size + 1 + t1.size + 3 := by omega
 have hzz : t0.size + 1 + t1.size + 1 ≤ 300000000 := by omega
 simp only [V4] at k0 k1 k2 HT0 HT1
 obtain ⟨Z, hZ⟩ : ∃ Z, t0 ++ ⟨#[59]⟩ ++ t1 ++ ⟨#[59]⟩ = Z := ⟨_, rfl⟩
 have hZs : Z.size ≤ 300000000 := by
  rw [← hZ, ByteArray.size_append, ByteArray.size_append, ByteArray.size_append]
  exact hzz
 rw [hZ]
 have HA0 : Hid (t0 ++ ⟨#[59]⟩ ++ t1 ++ ⟨#[59, 71, 58]⟩ = Z ++ textB ⟨#[71]⟩ []) := by
  show _ = _
  rw [HNIL.out, ← hZ, ba_assoc _ ⟨#[59]⟩ (_ ++ _)]
  rfl
 clear hZ hzz
 clear h hs hlen hi hn0 hn1 hn2 hn3 ht0 ht1 hc0 hc1 hz0 hz1
 go_enter Tryz.func69, Tryz.ntmps69
 go_wp2_with fail
 refine wp_region_inv (fun j v wz => match j with | 0 | 1 | 6 | 7 => v = ptr e | 2 => v = .pointer (some ⟨e, 0, none⟩) | 8 => v = .pointer (some ⟨e, 1, none⟩) | 3 => v = .slice a0 n0 c0 | 9 => v = .slice a1 n1 c1 | 4 => v = .string t0 | 10 => v = .string t1 | 5 => v = .string (t0 ++ ⟨#[59]⟩) | 11 => v = .string (t0 ++ ⟨#[59]⟩ ++ t1) | 12 | 13 => v = .string (t0 ++ ⟨#[59]⟩ ++ t1 ++ ⟨#[59, 71, 58]⟩) | _ => True) (fun _ wz => (wz.cell? ⟨e, 0, none⟩ = some (.slice a0 n0 c0) ∧ wz.cell? ⟨e, 1, none⟩ = some (.slice a1 n1 c1)) ∧ Hid (Fr [] w wz)) (fun _ _ => True) (by kernel_rfl) (by kernel_rfl) (by kernel_rfl) (fun _ _ _ _ h _ => h) ⟨⟨k0, k1⟩, (Fr.refl [] _).drew⟩ ?hops ?hfin
 case hops =>
  repeat' (first | exact OpsOk.nil | refine OpsOk.cons ?_ ?_)
  all_goals try exact rgT
  ·skip
   intro D X w' K hD hcl hS hI hK
   simp only [afterI, Region.binds, forall_const] at hI
   simp only [putL, pE0, pE1, pE4, pE5, pE6, Nat.reduceAdd, up, Nat.reduceEqDiff, if_true, if_false, reduceIte] at hK ⊢
   try simp only [hI] at hK
   go_simp
   refine (HT0.out _ hS.2.out).mono ?_
   rintro en w3 ⟨rfl, f3⟩
   exact hK.out _ _ rfl ⟨⟨cell_fr f3 hS.1.1 (by simp), cell_fr f3 hS.1.2 (by simp)⟩, hS.2.out.same f3⟩ trivial
  ·skip
   intro D X w' K hD hcl hS hI hK
   simp only [afterI, Region.binds, forall_const] at hI
   simp only [putL, pE0, pE1, pE4, pE5, pE6, Nat.reduceAdd, up, Nat.reduceEqDiff, if_true, if_false, reduceIte] at hK ⊢
   try simp only [hI] at hK
   go_simp
   refine (HT1.out _ hS.2.out).mono ?_
   rintro en w3 ⟨rfl, f3⟩
   exact hK.out _ _ rfl ⟨⟨cell_fr f3 hS.1.1 (by simp), cell_fr f3 hS.1.2 (by simp)⟩, hS.2.out.same f3⟩ trivial
 case hfin =>
  intro D X wa hS hD hI
  simp only [putL, pE0, pE1, pE4, pE5, pE6, Nat.reduceAdd]
  have h13 : X 13 = _ := hI 13 (by decide)
  rw [h13]
  have HFW := hS.2
  replace k2 := cell_fr HFW.out k2 (by simp)
  replace HR : Hid (SS wa (.slice a2 n2 c2) l) := SS.fr0 HR.out HFW.out
  clear h13 hS hD hI k0 k1 HT0 HT1
  rw [HA0.out]
  obtain ⟨A, hA⟩ : ∃ A, Z ++ textB ⟨#[71]⟩ [] = A := ⟨_, rfl⟩
  have HA : Hid (A = Z ++ textB ⟨#[71]⟩ []) := hA.symm
  rw [hA]
  clear hA
  go_wp2
  go_loopw [3, 4] (fun u3 u4 wr => ∃ (j : Nat) (t : ByteArray), j ≤ n2 ∧ u4 = .int .i64 j ∧ u3 = .string t ∧ wr = wa ∧ Hid (t = Z ++ textB ⟨#[71]⟩ (l.take j))) (fun _ u4 _ => n2 - (intOf u4).toNat)
  case atStart => exact ⟨0, _, Nat.zero_le _, rfl, rfl, rfl, by rw [List.take_zero]; exact HA⟩
  case round =>
   obtain ⟨j, t, hj, rfl, rfl, rfl, hT⟩ := hrel
   by_cases hlt : j < n2
   ·have hjl : j < l.length := by rw [HN.out]; exact hlt
    obtain ⟨g, o, rfl, x0⟩ := RowAt.str (i := j) HR.out hjl
    have hts : t.size ≤ 400000000 := by
     rw [hT.out, ByteArray.size_append]
     have := text_size (name := ⟨#[71]⟩) (by decide) (fun k hk => HSH.out k (List.mem_of_mem_take (i := j) hk)) (by rw [List.length_take]; omega)
     omega
    have hks : l[j].size ≤ 10000 := HSH.out _ (List.getElem_mem hjl)
    have HSN : Hid (Z ++ textB ⟨#[71]⟩ (l.take (j + 1)) = t ++ ⟨#[32]⟩ ++ l[j]) := by
     show _ = _
     rw [List.take_add_one, List.getElem?_eq_getElem hjl]
     show Z ++ textB ⟨#[71]⟩ (l.take j ++ [l[j]]) = _
     rw [textB_snoc, ← ba_assoc, ← ba_assoc, ← hT.out]
    obtain ⟨k, hk⟩ : ∃ k, l[j] = k := ⟨_, rfl⟩
    rw [hk] at x0 HSN hks
    have q1 : (j : Int) < (n2 : Int) := by omega
    have q2 : ¬ 9223372036854775807 < t.size + 1 := by omega
    have q3 : ¬ 9223372036854775807 < t.size + 1 + k.size := by omega
    clear hk
    go_wp2
    exact ⟨⟨j + 1, _, by omega, by go_num, rfl, by first | rfl | trivial, HSN.out.symm⟩, by simp [intOf]; omega⟩
   ·have : n2 = j := by omega
    subst this
    go_wp2
    go_ret
    have hT := hT.out
    rw [← HN.out, List.take_length] at hT
    exact ⟨by rw [← hT]; rfl, HFW.out⟩
end Go.Proofs.YtfeicmpbfbhiiaaGreat
set_option linter.unusedVariables false
set_option linter.unusedSimpArgs false
namespace Go.Proofs.YtfeicmpbfbhiiaaGreat
open Go.RowKit
open Act renaming put → pE0
open List renaming getElem_toArray → pE1, getElem_cons_succ → pE2, getElem_cons_zero → pE3, setIfInBounds_toArray → pE4, set_cons_zero → pE5, set_cons_succ → pE6
attribute [local go_sem ↓] Go.wp_at_zero Go.wp_at_succ
def cellU (x : ByteArray × Nat) : ByteArray := x.1 ++ ⟨#[47]⟩ ++ ⟨#[UInt8.ofNat x.2]⟩
def Lirs.text (s : Lirs) : ByteArray := joinB [textB ⟨#[83]⟩ ((stkB s.S).map cellU), textB ⟨#[81]⟩ s.Q] ⟨#[59]⟩
theorem joinB_two (a b s : ByteArray) : joinB [a, b] s = a ++ s ++ b := by
 have h2 := joinB_snoc a [] b s
 rw [joinB_one] at h2
 simpa using h2
set_option maxHeartbeats 4000000 in
set_option maxRecDepth 100000 in
theorem r13state {w : World} {e : Nat} {F : List Nat} {s : Lirs} (H : RE13 w e F s) (hs : Short 10000 ((stkB s.S).map cellU)) (hq : Short 10000 s.Q) : Calls Tryz.prog 66 #[ptr e] w fun en w' => en = .returned (.string s.text) ∧ Fr [] w w' := by
 obtain ⟨hlS, hlQ⟩ := H.1.lens
 obtain ⟨a, n, c, a1, n1, c1, H2, hn0, hn1, k0, k1, k2, s0, s1⟩ := H.2.open
 have HS := Lib.hid s0
 have HR := Lib.hid s1
 have HN : Hid ((stkB s.S).length = n) := hn0
 have HN1 : Hid (s.Q.length = n1) := hn1
 rw [← stkB_len, HN.out] at hlS
 rw [HN1.out] at hlQ
 have HSH := Lib.hid hs
 have HSQ := Lib.hid hq
 have HNIL := Lib.hid (textB_nil ⟨#[83]⟩)
 unfold Lirs.text
 rw [joinB_two]
 generalize stkB s.S = l at *
 generalize s.Q = q at *
 clear H H2 s0 s1 hn0 hn1 k2 hs hq
 go_enter Tryz.func66, Tryz.ntmps66
 go_wp2
 go_loopw [3, 4] (fun u3 u4 wr => ∃ (j : Nat) (t : ByteArray), j ≤ n ∧ u4 = .int .i64 j ∧ u3 = .string t ∧ Hid (Fr [] w wr) ∧ Hid (t = textB ⟨#[83]⟩ ((l.map cellU).take j))) (fun _ u4 _ => n - (intOf u4).toNat)
 case atStart => exact ⟨0, _, Nat.zero_le _, rfl, rfl, Fr.refl _ _, by rw [List.take_zero]; exact HNIL.out.symm⟩
 case round =>
  obtain ⟨j, t, hj, rfl, rfl, hF, hT⟩ := hrel
  have hts : t.size ≤ 100000000 := by
   rw [hT.out]
   exact text_size (by decide) (fun k hk => HSH.out k (List.mem_of_mem_take hk)) (by rw [List.length_take, List.length_map, HN.out]; omega)
  replace k0 := cell_fr hF.out k0 (by simp)
  by_cases hlt : j < n
  ·have hjl : j < l.length := by rw [HN.out]; exact hlt
   have hjm : j < (l.map cellU).length := by rw [List.length_map]; exact hjl
   obtain ⟨g, o, rfl, x0, x1⟩ := cell13_at HS.out hjl
   have hks : (l.map cellU)[j].size ≤ 10000 := HSH.out _ (List.getElem_mem hjm)
   have HSN : Hid (textB ⟨#[83]⟩ ((l.map cellU).take (j + 1)) = t ++ ⟨#[32]⟩ ++ (l.map cellU)[j]) := by
    show _ = _
    rw [List.take_add_one, List.getElem?_eq_getElem hjm]
    show textB _ ((l.map cellU).take j ++ [(l.map cellU)[j]]) = _
    rw [textB_snoc, ← hT.out]
   rw [List.getElem_map] at hks HSN
   obtain ⟨x, hx⟩ : ∃ x, l[j] = x := ⟨_, rfl⟩
   rw [hx] at x0 x1 HSN hks
   obtain ⟨k, m⟩ := x
   simp only [cellU] at hks HSN
   obtain ⟨B, hB⟩ : ∃ x : ByteArray, ⟨#[UInt8.ofNat m]⟩ = x := ⟨_, rfl⟩
   have hBs : B.size = 1 := by rw [← hB]; rfl
   rw [hB] at hks HSN
   rw [ByteArray.size_append, ByteArray.size_append] at hks
   obtain ⟨z, hz⟩ : ∃ z : Int, z = (m : Int) := ⟨_, rfl⟩
   have hc : Hid (∀ w b, w.cell? ⟨b, 0, none⟩ = some (.int .u8 z) → (convert 161 9 (.slice (some ⟨b, 0, none⟩) 1 1)).run Tryz.prog w = .ok (.string B) w) := fun w b h => by
    rw [conv2 w b z h, hz, ← hB]; rfl
   have q1 : (j : Int) < (n : Int) := by omega
   have q2 : ¬ 9223372036854775807 < t.size + 1 := by omega
   have q3 : ¬ 9223372036854775807 < t.size + 1 + k.size := by omega
   have q4 : ¬ 9223372036854775807 < t.size + 1 + k.size + 1 := by omega
   have q5 : ¬ 9223372036854775807 < t.size + 1 + k.size + 1 + B.size := by omega
   replace x0 := cell_fr hF.out x0 (by simp)
   replace x1 := cell_fr hF.out x1 (by simp)
   simp only at x0 x1
   rw [← hz] at x1
   clear hx hz hB hBs hks
   go_wp2_with fail
   refine wp_region_invY (fun j2 v wz => match j2 with | 0 => v = .string t | 1 => v = .string (t ++ ⟨#[32]⟩) | 2 | 3 | 12 | 13 => v = ptr e | 4 | 14 => v = .pointer (some ⟨e, 0, none⟩) | 5 | 15 => v = .slice (some ⟨g, o, none⟩) n c | 6 | 16 => v = .int .i64 (j : Nat) | 7 | 8 | 17 => v = .pointer (some ⟨g, o + j * 2, none⟩) | 9 => v = .string k | 10 => v = .string (t ++ ⟨#[32]⟩ ++ k) | 11 => v = .string (t ++ ⟨#[32]⟩ ++ k ++ ⟨#[47]⟩) | 18 => v = .pointer (some ⟨g, o + j * 2 + 1, none⟩) | 19 => v = .int .u8 z | 20 => ∃ b, v = .slice (some ⟨b, 0, none⟩) 1 1 ∧ wz.cell? ⟨b, 0, none⟩ = some (.int .u8 z) | 21 => v = .string B | 22 | 23 => v = .string (t ++ ⟨#[32]⟩ ++ k ++ ⟨#[47]⟩ ++ B) | _ => True) (fun D X wz => (D 23 = false → X 23 = .string t) ∧ (wz.cell? ⟨e, 0, none⟩ = some (.slice (some ⟨g, o, none⟩) n c) ∧ wz.cell? ⟨g, o + j * 2, none⟩ = some (.string k) ∧ wz.cell? ⟨g, o + j * 2 + 1, none⟩ = some (.int .u8 z)) ∧ Hid (Fr [] w wz)) (fun a b => Fr [] a b) (by kernel_rfl) (by kernel_rfl) (by kernel_rfl) ?hst ?hS ?hops ?hfin
   case hS =>
    intro X hX
    refine ⟨fun _ => ?_, ⟨k0, x0, x1⟩, hF.out.drew⟩
    simp only [putL, pE0, pE1, pE4, pE5, pE6, Nat.reduceAdd] at hX
    have h5 := congrArg (fun b : Act => b.tmps[3]?) hX
    simpa using h5.symm
   case hst =>
    intro j v a b h f
    split at h <;> first | exact h | exact ⟨h.choose, h.choose_spec.1, cell_fr f h.choose_spec.2 (by simp)⟩
   case hops =>
    repeat' (first | exact OpsOkX.nil | refine OpsOkX.cons ?_ ?_)
    all_goals try exact rgTX
    ·skip
     intro D X w' K hD hcl hS hA hI hK
     have x19 := hS.1 (hcl.not hD 23 (by kernel_rfl))
     simp only [putL, pE0, pE1, pE4, pE5, pE6, Nat.reduceAdd, up, Nat.reduceEqDiff, if_true, if_false, reduceIte] at hK ⊢
     rw [x19] at hK ⊢
     go_simp
     exact hK.out _ _ rfl ⟨fun _ => rfl, hS.2⟩ (Fr.refl _ _)
    ·skip
     intro D X w' K hD hcl hS hA hI hK
     simp only [afterI, Region.binds, forall_const] at hI
     simp only [putL, pE0, pE1, pE4, pE5, pE6, Nat.reduceAdd, up, Nat.reduceEqDiff, if_true, if_false, reduceIte] at hK ⊢
     try simp only [hI] at hK
     go_simp
     exact hK.out _ _ ⟨_, rfl, by simp [go_sem]⟩ ⟨hS.1, ⟨cell_fr ((Fr.refl [] _).alloc _) hS.2.1.1 (by simp), cell_fr ((Fr.refl [] _).alloc _) hS.2.1.2.1 (by simp), cell_fr ((Fr.refl [] _).alloc _) hS.2.1.2.2 (by simp)⟩, hS.2.2.out.alloc _⟩ ((Fr.refl [] _).alloc _)
    ·skip
     intro D X w' K hD hcl hS hA hI hK
     simp only [afterI, Region.binds, forall_const] at hI
     simp only [putL, pE0, pE1, pE4, pE5, pE6, Nat.reduceAdd, up, Nat.reduceEqDiff, if_true, if_false, reduceIte] at hK ⊢
     obtain ⟨⟨b, hx, hb⟩, _⟩ := hI
     rw [hx] at hK ⊢
     have hcc := hc.out _ _ hb
     go_simp
     exact hK.out _ _ rfl hS (Fr.refl _ _)
    ·skip
     intro D X w' K hD hcl hS hA hI hK
     simp only [afterI, Region.binds, forall_const] at hI
     simp only [putL, pE0, pE1, pE4, pE5, pE6, Nat.reduceAdd, up, Nat.reduceEqDiff, if_true, if_false, reduceIte] at hK ⊢
     try simp only [hI] at hK
     go_simp
     exact hK.out _ _ rfl ⟨(fun h => Bool.noConfusion (show true = false from h)), hS.2⟩ (Fr.refl _ _)
   case hfin =>
    intro D X wa hS hD hI
    simp only [putL, pE0, pE1, pE4, pE5, pE6, Nat.reduceAdd]
    have h23 : X 23 = _ := hI 23 (by decide)
    rw [h23]
    have HFW := hS.2.2
    clear h23 hS hD hI
    go_wp2
    exact ⟨⟨j + 1, _, by omega, by go_num, rfl, HFW, by show _ = _; rw [HSN.out, ← ba_assoc, ← ba_assoc]⟩, by simp [intOf]; omega⟩
  ·have : n = j := by omega
   subst this
   have hT := hT.out
   rw [← HN.out, ← List.length_map (f := cellU), List.take_length] at hT
   have HT0 := Lib.hid hT
   replace k1 := cell_fr hF.out k1 (by simp)
   replace HR : Hid (SS wr (.slice a1 n1 c1) q) := SS.fr0 HR.out hF.out
   have q2 : ¬ 9223372036854775807 < t.size + 3 := by omega
   have HA : Hid (t ++ ⟨#[59, 81, 58]⟩ = t ++ ⟨#[59]⟩ ++ textB ⟨#[81]⟩ []) := by
    show _ = _
    rw [textB_nil, ba_assoc t ⟨#[59]⟩]
    rfl
   obtain ⟨Z, hZ⟩ : ∃ Z, t ++ ⟨#[59]⟩ = Z := ⟨_, rfl⟩
   have hZs : Z.size ≤ 300000000 := by
    rw [← hZ, ByteArray.size_append]
    have e1 : (⟨#[59]⟩ : ByteArray).size = 1 := rfl
    omega
   rw [hZ] at HA
   have HZ := Lib.hid hZ
   clear hT hZ
   go_wp2
   go_loopw [3, 5] (fun u3 u4 wq => ∃ (j : Nat) (t : ByteArray), j ≤ n1 ∧ u4 = .int .i64 j ∧ u3 = .string t ∧ wq = wr ∧ Hid (t = Z ++ textB ⟨#[81]⟩ (q.take j))) (fun _ u4 _ => n1 - (intOf u4).toNat)
   case atStart => exact ⟨0, _, Nat.zero_le _, rfl, rfl, rfl, by rw [List.take_zero]; exact HA⟩
   case round =>
    obtain ⟨j, t, hj, rfl, rfl, rfl, hT⟩ := hrel
    by_cases hlt : j < n1
    ·have hjl : j < q.length := by rw [HN1.out]; exact hlt
     obtain ⟨g, o, rfl, x0⟩ := RowAt.str (i := j) HR.out hjl
     have hts : t.size ≤ 400000000 := by
      rw [hT.out, ByteArray.size_append]
      have := text_size (name := ⟨#[81]⟩) (by decide) (fun k hk => HSQ.out k (List.mem_of_mem_take (i := j) hk)) (by rw [List.length_take]; omega)
      omega
     have hks : q[j].size ≤ 10000 := HSQ.out _ (List.getElem_mem hjl)
     have HSN : Hid (Z ++ textB ⟨#[81]⟩ (q.take (j + 1)) = t ++ ⟨#[32]⟩ ++ q[j]) := by
      show _ = _
      rw [List.take_add_one, List.getElem?_eq_getElem hjl]
      show Z ++ textB _ (q.take j ++ [q[j]]) = _
      rw [textB_snoc, ← ba_assoc, ← ba_assoc, ← hT.out]
     obtain ⟨k, hk⟩ : ∃ k, q[j] = k := ⟨_, rfl⟩
     rw [hk] at x0 HSN hks
     have q1 : (j : Int) < (n1 : Int) := by omega
     have q2 : ¬ 9223372036854775807 < t.size + 1 := by omega
     have q3 : ¬ 9223372036854775807 < t.size + 1 + k.size := by omega
     clear hk
     go_wp2
     exact ⟨⟨j + 1, _, by omega, by go_num, rfl, by first | rfl | trivial, HSN.out.symm⟩, by simp [intOf]; omega⟩
    ·have : n1 = j := by omega
     subst this
     go_wp2
     go_ret
     have hT := hT.out
     rw [← HN1.out, List.take_length] at hT
     exact ⟨by rw [← HT0.out, HZ.out, ← hT]; rfl, hF.out⟩
end Go.Proofs.YtfeicmpbfbhiiaaGreat
set_option linter.unusedVariables false
set_option linter.unusedSimpArgs false
namespace Go.Proofs.YtfeicmpbfbhiiaaGreat
open Go.RowKit
attribute [local go_sem ↓] Go.wp_at_zero Go.wp_at_succ
set_option maxHeartbeats 400000 in
set_option maxRecDepth 100000 in
theorem r11state {w : World} {e : Nat} {F : List Nat} {s : Twoq} (h : RE11 w e F s) (hs : ∀ i, Short 10000 (s.K i)) : Calls Tryz.prog 67 #[ptr e] w fun en w' => en = .returned (.string (joinB [textB ⟨#[65, 49, 105, 110]⟩ (s.K 0), textB ⟨#[65, 49, 111, 117, 116]⟩ (s.K 1), textB ⟨#[65, 109]⟩ (s.K 2)] ⟨#[59]⟩)) ∧ ∃ m, w' = w.drewN m := by
 have hlen := h.1.len
 obtain ⟨_, V, h⟩ := h
 obtain ⟨a0, n0, c0, a1, n1, c1, a2, n2, c2, a3, n3, c3, hn0, hn1, hn2, hn3, h⟩ := h.lit (by decide)
 have HT0 := Lib.hid fun m => ftextQ (SS.fr0 (h.s 0 (by decide)) ((Fr.refl [] w).drewN m)) (Nat.le_trans (hlen 0) (by decide)) (hs 0) ⟨#[65, 49, 105, 110]⟩ (by decide)
 have hz0 := text_size (name := ⟨#[65, 49, 105, 110]⟩) (by decide) (hs 0) (Nat.le_trans (hlen 0) (by decide))
 have k0 := h.k (i := 0) (by decide)
 obtain ⟨t0, ht0⟩ : ∃ t, textB ⟨#[65, 49, 105, 110]⟩ (s.K 0) = t := ⟨_, rfl⟩
 rw [ht0] at HT0 hz0 ⊢
 have HT1 := Lib.hid fun m => ftextQ (SS.fr0 (h.s 1 (by decide)) ((Fr.refl [] w).drewN m)) (Nat.le_trans (hlen 1) (by decide)) (hs 1) ⟨#[65, 49, 111, 117, 116]⟩ (by decide)
 have hz1 := text_size (name := ⟨#[65, 49, 111, 117, 116]⟩) (by decide) (hs 1) (Nat.le_trans (hlen 1) (by decide))
 have k1 := h.k (i := 1) (by decide)
 obtain ⟨t1, ht1⟩ : ∃ t, textB ⟨#[65, 49, 111, 117, 116]⟩ (s.K 1) = t := ⟨_, rfl⟩
 rw [ht1] at HT1 hz1 ⊢
 have HT2 := Lib.hid fun m => ftextQ (SS.fr0 (h.s 2 (by decide)) ((Fr.refl [] w).drewN m)) (Nat.le_trans (hlen 2) (by decide)) (hs 2) ⟨#[65, 109]⟩ (by decide)
 have hz2 := text_size (name := ⟨#[65, 109]⟩) (by decide) (hs 2) (Nat.le_trans (hlen 2) (by decide))
 have k2 := h.k (i := 2) (by decide)
 obtain ⟨t2, ht2⟩ : ∃ t, textB ⟨#[65, 109]⟩ (s.K 2) = t := ⟨_, rfl⟩
 rw [ht2] at HT2 hz2 ⊢
 simp only [V4] at k0 k1 k2 HT0 HT1 HT2
 rw [joinB_three]
 have q1 : ¬ 9223372036854775807 < t0.size + 1 := by omega
 have q2 : ¬ 9223372036854775807 < t0.size + 1 + t1.size := by omega
 have q3 : ¬ 9223372036854775807 < t0.size + 1 + t1.size + 1 := by omega
 have q4 : ¬ 9223372036854775807 < t0.size + 1 + t1.size + 1 + t2.size := by omega
 clear h hs hlen hn0 hn1 hn2 hn3 ht0 ht1 ht2
 go_enter Tryz.func67, Tryz.ntmps67
 go_wp2
 go_quiet (first | (go_at_call_of 126 (Value.string ⟨#[65, 49, 105, 110]⟩); exact Calls.quiet_of_same (HT0.out _)) | (go_at_call_of 126 (Value.string ⟨#[65, 49, 111, 117, 116]⟩); exact Calls.quiet_of_same (HT1.out _)) | (go_at_call_of 126 (Value.string ⟨#[65, 109]⟩); exact Calls.quiet_of_same (HT2.out _)))
 go_wp2
 go_ret
 exact ⟨rfl, _, rfl⟩
set_option maxHeartbeats 400000 in
set_option maxRecDepth 100000 in
theorem r14state {w : World} {e : Nat} {F : List Nat} {s : Tiny} (h : RE14 w e F s) (hs : ∀ i, Short 10000 (s.K i)) : Calls Tryz.prog 68 #[ptr e] w fun en w' => en = .returned (.string (joinB [textB ⟨#[87]⟩ (s.K 0), textB ⟨#[65]⟩ (s.K 1), textB ⟨#[80]⟩ (s.K 2)] ⟨#[59]⟩)) ∧ ∃ m, w' = w.drewN m := by
 have hlen := h.1.len
 obtain ⟨_, V, p, q, Fk, Fd, h, _⟩ := h
 obtain ⟨a0, n0, c0, a1, n1, c1, a2, n2, c2, a3, n3, c3, hn0, hn1, hn2, hn3, h⟩ := h.lit (by decide)
 have HT0 := Lib.hid fun m => ftextU (SS.fr0 (h.s 0 (by decide)) ((Fr.refl [] w).drewN m)) (Nat.le_trans (hlen 0) (by decide)) (hs 0) ⟨#[87]⟩ (by decide)
 have hz0 := text_size (name := ⟨#[87]⟩) (by decide) (hs 0) (Nat.le_trans (hlen 0) (by decide))
 have k0 := h.k (i := 0) (by decide)
 obtain ⟨t0, ht0⟩ : ∃ t, textB ⟨#[87]⟩ (s.K 0) = t := ⟨_, rfl⟩
 rw [ht0] at HT0 hz0 ⊢
 have HT1 := Lib.hid fun m => ftextU (SS.fr0 (h.s 1 (by decide)) ((Fr.refl [] w).drewN m)) (Nat.le_trans (hlen 1) (by decide)) (hs 1) ⟨#[65]⟩ (by decide)
 have hz1 := text_size (name := ⟨#[65]⟩) (by decide) (hs 1) (Nat.le_trans (hlen 1) (by decide))
 have k1 := h.k (i := 1) (by decide)
 obtain ⟨t1, ht1⟩ : ∃ t, textB ⟨#[65]⟩ (s.K 1) = t := ⟨_, rfl⟩
 rw [ht1] at HT1 hz1 ⊢
 have HT2 := Lib.hid fun m => ftextU (SS.fr0 (h.s 2 (by decide)) ((Fr.refl [] w).drewN m)) (Nat.le_trans (hlen 2) (by decide)) (hs 2) ⟨#[80]⟩ (by decide)
 have hz2 := text_size (name := ⟨#[80]⟩) (by decide) (hs 2) (Nat.le_trans (hlen 2) (by decide))
 have k2 := h.k (i := 2) (by decide)
 obtain ⟨t2, ht2⟩ : ∃ t, textB ⟨#[80]⟩ (s.K 2) = t := ⟨_, rfl⟩
 rw [ht2] at HT2 hz2 ⊢
 simp only [V4] at k0 k1 k2 HT0 HT1 HT2
 rw [joinB_three]
 have q1 : ¬ 9223372036854775807 < t0.size + 1 := by omega
 have q2 : ¬ 9223372036854775807 < t0.size + 1 + t1.size := by omega
 have q3 : ¬ 9223372036854775807 < t0.size + 1 + t1.size + 1 := by omega
 have q4 : ¬ 9223372036854775807 < t0.size + 1 + t1.size + 1 + t2.size := by omega
 clear h hs hlen hn0 hn1 hn2 hn3 ht0 ht1 ht2
 go_enter Tryz.func68, Tryz.ntmps68
 go_wp2
 go_quiet (first | (go_at_call_of 127 (Value.string ⟨#[87]⟩); exact Calls.quiet_of_same (HT0.out _)) | (go_at_call_of 127 (Value.string ⟨#[65]⟩); exact Calls.quiet_of_same (HT1.out _)) | (go_at_call_of 127 (Value.string ⟨#[80]⟩); exact Calls.quiet_of_same (HT2.out _)))
 go_wp2
 go_ret
 exact ⟨rfl, _, rfl⟩
end Go.Proofs.YtfeicmpbfbhiiaaGreat
set_option linter.unusedVariables false
set_option linter.unusedSimpArgs false
namespace Go.Proofs.YtfeicmpbfbhiiaaGreat
open Go.RowKit
attribute [local go_sem ↓] Go.wp_at_zero Go.wp_at_succ
def Tiny.text (s : Tiny) : ByteArray := joinB [textB ⟨#[87]⟩ (s.K 0), textB ⟨#[65]⟩ (s.K 1), textB ⟨#[80]⟩ (s.K 2)] ⟨#[59]⟩
def En.words : En → ByteArray | .A s => s.text | .L s => s.text | .Q s => s.text | .U s => s.text | .S s => s.text
/-- Its keys are short, its numbers small: what a text wants. -/
def En.Tx : En → Prop | .A s => s.p < 100 ∧ ∀ i, Short 9000 (s.K i) | .L s => (∀ x ∈ s.S, x.1.size ≤ 9000) ∧ Short 9000 s.Q | .Q s => ∀ i, Short 9000 (s.K i) | .U s => ∀ i, Short 9000 (s.K i) | .S s => ∀ i, Short 9000 (s.K i)
theorem cellU_short {S : Stk} (h : ∀ x ∈ S, x.1.size ≤ 9000) : Short 10000 ((stkB S).map cellU) := by
 intro k hk
 obtain ⟨x, hx, rfl⟩ := List.mem_map.1 hk
 obtain ⟨y, hy, rfl⟩ := List.mem_map.1 hx
 have := h y hy
 simp only [cellU, ByteArray.size_append]
 have e1 : (⟨#[47]⟩ : ByteArray).size = 1 := rfl
 have e2 : (⟨#[UInt8.ofNat (isB y.2)]⟩ : ByteArray).size = 1 := rfl
 omega
def TextRet (w : World) (t : ByteArray) (en : Ending) (w' : World) : Prop := en = .returned (.string t) ∧ Fr [] w w'
section
variable {w w' w1 : World} {x : Nat} {F : List Nat}
set_option maxRecDepth 100000 in
theorem r15stateA {s : Arc} (h : RE15 w x F (.A s)) (hs : (En.A s).Tx) : Calls Tryz.prog 17 #[ptr x] w (TextRet w (En.A s).words) := by
 obtain ⟨p, F1, rfl, hx, hb, h⟩ := h
 have HC : Hid (Calls Tryz.prog 65 #[ptr p] w (TextRet w (En.A s).words)) := by
  exact r10state h hs.1 (fun i => (hs.2 i).mono (by decide))
 have k0 := cell_of_block hb 0
 have kp := cell_of_block hb 1
 simp [c15, En.kd] at k0 kp
 generalize (En.A s).words = l at *
 clear h hb hx hs
 go_enter Tryz.func17, Tryz.ntmps17
 go_wp2_with fail
 refine HC.out.mono ?_
 rintro en w1 ⟨rfl, f1⟩
 go_wp2
 go_ret
 exact ⟨rfl, f1⟩
set_option maxRecDepth 100000 in
theorem r15stateL {s : Lirs} (h : RE15 w x F (.L s)) (hs : (En.L s).Tx) : Calls Tryz.prog 17 #[ptr x] w (TextRet w (En.L s).words) := by
 obtain ⟨p, F1, rfl, hx, hb, h⟩ := h
 have HC : Hid (Calls Tryz.prog 66 #[ptr p] w (TextRet w (En.L s).words)) := by
  exact r13state h (cellU_short hs.1) (hs.2.mono (by decide))
 have k0 := cell_of_block hb 0
 have kp := cell_of_block hb 2
 simp [c15, En.kd] at k0 kp
 generalize (En.L s).words = l at *
 clear h hb hx hs
 go_enter Tryz.func17, Tryz.ntmps17
 go_wp2_with fail
 refine HC.out.mono ?_
 rintro en w1 ⟨rfl, f1⟩
 go_wp2
 go_ret
 exact ⟨rfl, f1⟩
set_option maxRecDepth 100000 in
theorem r15stateQ {s : Twoq} (h : RE15 w x F (.Q s)) (hs : (En.Q s).Tx) : Calls Tryz.prog 17 #[ptr x] w (TextRet w (En.Q s).words) := by
 obtain ⟨p, F1, rfl, hx, hb, h⟩ := h
 have HC : Hid (Calls Tryz.prog 67 #[ptr p] w (TextRet w (En.Q s).words)) := by
  exact (r11state h (fun i => (hs i).mono (by decide))).mono (fun en w' hh => ⟨hh.1, by obtain ⟨m, rfl⟩ := hh.2; exact (Fr.refl [] w).drewN m⟩)
 have k0 := cell_of_block hb 0
 have kp := cell_of_block hb 3
 simp [c15, En.kd] at k0 kp
 generalize (En.Q s).words = l at *
 clear h hb hx hs
 go_enter Tryz.func17, Tryz.ntmps17
 go_wp2_with fail
 refine HC.out.mono ?_
 rintro en w1 ⟨rfl, f1⟩
 go_wp2
 go_ret
 exact ⟨rfl, f1⟩
set_option maxRecDepth 100000 in
theorem r15stateU {s : Tiny} (h : RE15 w x F (.U s)) (hs : (En.U s).Tx) : Calls Tryz.prog 17 #[ptr x] w (TextRet w (En.U s).words) := by
 obtain ⟨p, F1, rfl, hx, hb, h⟩ := h
 have HC : Hid (Calls Tryz.prog 68 #[ptr p] w (TextRet w (En.U s).words)) := by
  exact (r14state h (fun i => (hs i).mono (by decide))).mono (fun en w' hh => ⟨hh.1, by obtain ⟨m, rfl⟩ := hh.2; exact (Fr.refl [] w).drewN m⟩)
 have k0 := cell_of_block hb 0
 have kp := cell_of_block hb 4
 simp [c15, En.kd] at k0 kp
 generalize (En.U s).words = l at *
 clear h hb hx hs
 go_enter Tryz.func17, Tryz.ntmps17
 go_wp2_with fail
 refine HC.out.mono ?_
 rintro en w1 ⟨rfl, f1⟩
 go_wp2
 go_ret
 exact ⟨rfl, f1⟩
set_option maxRecDepth 100000 in
theorem r15stateS {s : S3} (h : RE15 w x F (.S s)) (hs : (En.S s).Tx) : Calls Tryz.prog 17 #[ptr x] w (TextRet w (En.S s).words) := by
 obtain ⟨p, F1, rfl, hx, hb, h⟩ := h
 have HC : Hid (Calls Tryz.prog 69 #[ptr p] w (TextRet w (En.S s).words)) := by
  exact r12state h hs
 have k0 := cell_of_block hb 0
 have kp := cell_of_block hb 5
 simp [c15, En.kd] at k0 kp
 generalize (En.S s).words = l at *
 clear h hb hx hs
 go_enter Tryz.func17, Tryz.ntmps17
 go_wp2_with fail
 refine HC.out.mono ?_
 rintro en w1 ⟨rfl, f1⟩
 go_wp2
 go_ret
 exact ⟨rfl, f1⟩
theorem r15state {s : En} (h : RE15 w x F s) (hs : s.Tx) : Calls Tryz.prog 17 #[ptr x] w (TextRet w s.words) := by
 cases s with
 | A s => exact r15stateA h hs
 | L s => exact r15stateL h hs
 | Q s => exact r15stateQ h hs
 | U s => exact r15stateU h hs
 | S s => exact r15stateS h hs
end
end Go.Proofs.YtfeicmpbfbhiiaaGreat
