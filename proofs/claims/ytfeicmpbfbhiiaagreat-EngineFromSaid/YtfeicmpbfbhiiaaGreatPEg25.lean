/- Texts of a proof about the given program, those parts that this claim reaches. -/
import Derived.Test.YtfeicmpbfbhiiaaGreatPEg24
import Derived.Test.YtfeicmpbfbhiiaaGreatPEg16
set_option linter.unusedVariables false
set_option linter.unusedSimpArgs false
namespace Go.Proofs.YtfeicmpbfbhiiaaGreat
open Go.RowKit
open Act renaming put → pE0
open List renaming getElem_toArray → pE1, getElem_cons_succ → pE2, getElem_cons_zero → pE3, setIfInBounds_toArray → pE4, set_cons_zero → pE5, set_cons_succ → pE6
attribute [local go_sem ↓] Go.wp_at_zero Go.wp_at_succ
/-- How long the slice in a cell is. -/
def rowN (w : World) (e i : Nat) : Nat := match w.cell? ⟨e, i, none⟩ with | some (.slice _ n _) => n | _ => 0
theorem rowN_of {w : World} {e i n : Nat} {a : Option Addr} {c : Nat} (h : w.cell? ⟨e, i, none⟩ = some (.slice a n c)) : rowN w e i = n := by unfold rowN; rw [h]
theorem drop_rest {K : Rows} {key : ByteArray} (h : RNd 4 K) (h0 : key ∉ K 0) (h1 : key ∉ K 1) : up (up K 2 (cutQ (K 2) key)) 3 (cutQ (K 3) key) = dropK K key := by
 funext j
 by_cases e : j = 3
 ·subst e; rw [up_same]; rfl
 ·rw [up_other _ _ _ _ e]
  by_cases e2 : j = 2
  ·subst e2; rw [up_same]; rfl
  ·rw [up_other _ _ _ _ e2, dropK_not]
   match j, e, e2 with
   | 0, _, _ => exact h0
   | 1, _, _ => exact h1
   | n + 4, _, _ => rw [h.out (n + 4) (by omega)]; simp
section
variable {w w' w1 w2 : World} {e : Nat} {F G : List Nat} {s : Arc}
set_option maxHeartbeats 1000000 in
set_option maxRecDepth 100000 in
theorem r10load_no (h : RE10 w e F s) (key : ByteArray) (hin : s.has key = true ∨ s.len = s.c) : Calls Tryz.prog 119 #[ptr e, .string key] w (StepRet RE10 w e F (.bool false) s) := by
 have hi := h.1
 have hb : ∀ i, (s.K i).length ≤ 100000 := fun i => Nat.le_trans (hi.len i) (by decide)
 have HH := Lib.hid fun m => r10has (h.2.fr0 ((Fr.refl [] w).drewN m)) hb key
 have HL := Lib.hid fun m => r10len (h.2.fr0 ((Fr.refl [] w).drewN m)) (by have := hb 0; have := hb 1; omega)
 have hq : decide (key ∈ s.K 0 ∨ key ∈ s.K 1) = s.has key := rfl
 rw [hq] at HH
 have hlen : (s.K 0).length + (s.K 1).length = s.len := rfl
 rw [hlen] at HL
 have HE := Lib.hid h
 obtain ⟨hi, V, h⟩ := h
 have k5 := h.kr 1 rfl
 generalize s.has key = b at *
 generalize s.len = n at *
 clear h hq hlen hb hi
 cases b with
 | true =>
  go_enter Tryz.func119, Tryz.ntmps119
  go_wp2
  go_quiet (first | (go_at_call 170; exact Calls.quiet_of_same (HH.out _)))
  go_wp2
  go_ret
  exact ⟨rfl, F, ⟨HE.out.1, HE.out.2.fr0 ((Fr.refl [] w).drewN _)⟩, Sub.refl _ _, (Fr.refl _ w).drewN _⟩
 | false =>
  have hnc : n = s.c := by simpa using hin
  have q1 : (s.c : Int) ≤ (n : Int) := by omega
  have q2 : s.c ≤ n := by omega
  clear hin hnc
  go_enter Tryz.func119, Tryz.ntmps119
  go_wp2
  go_quiet (first | (go_at_call 170; exact Calls.quiet_of_same (HH.out _)) | (go_at_call 179; exact Calls.quiet_of (HL.out _)))
  go_wp2
  go_ret
  exact ⟨rfl, F, ⟨HE.out.1, HE.out.2.fr0 ((Fr.refl [] w).drewN _)⟩, Sub.refl _ _, (Fr.refl _ w).drewN _⟩
theorem drop_tail {α : Type} (l : List α) (j : Nat) : (l.drop j).tail = l.drop (j + 1) := by rw [List.tail_drop]
theorem len_pos {l : List ByteArray} (h : 0 < l.length) : l ≠ [] := fun e => by rw [e] at h; cases h
set_option maxHeartbeats 2000000 in
set_option maxRecDepth 100000 in
theorem r10load_go (h : RE10 w e F s) (key : ByteArray) (hz : key.size ≤ maxLen) (hin : s.has key = false) (hl : s.len < s.c) :
  Calls Tryz.prog 119 #[ptr e, .string key] w (fun en w' => en = .returned (.bool true) ∧ RArcGo w e F (arcTrim3 s.c (arcTrim2 s.c (pushK s.K 0 key))) s.p s.c w') := by
 have hi := h.1
 have hc2 := hi.c2
 have hb : ∀ i, (s.K i).length ≤ 100000 := fun i => Nat.le_trans (hi.len i) (by decide)
 have HH := Lib.hid fun m => r10has (h.2.fr0 ((Fr.refl [] w).drewN m)) hb key
 have HL := Lib.hid fun m => r10len (h.2.fr0 ((Fr.refl [] w).drewN m)) (by have := hb 0; have := hb 1; omega)
 have hq : decide (key ∈ s.K 0 ∨ key ∈ s.K 1) = s.has key := rfl
 have hno : ¬ (key ∈ s.K 0 ∨ key ∈ s.K 1) := by rw [← hq] at hin; simpa using hin
 rw [hq, hin] at HH
 have hlen : (s.K 0).length + (s.K 1).length = s.len := rfl
 have hdr := drop_rest hi.nd (fun q => hno (.inl q)) (fun q => hno (.inr q))
 rw [hlen] at HL
 have l0 := hb 0
 have l1 := hb 1
 have l2 := Nat.le_trans (cutQ_lenle (s.K 2) key) (hi.len 2)
 have l3 := Nat.le_trans (cutQ_lenle (s.K 3) key) (hi.len 3)
 have e0 : dropK s.K key 0 = s.K 0 := dropK_not (fun q => hno (.inl q))
 have e1 : dropK s.K key 1 = s.K 1 := dropK_not (fun q => hno (.inr q))
 have HLB : Hid ((dropK s.K key 0).length ≤ 100000) := by show _ ≤ _; rw [e0]; exact hb 0
 obtain ⟨hi, V, h⟩ := h
 obtain ⟨K, p, c⟩ := s
 simp only at *
 obtain ⟨a0, n0, c0, a1, n1, c1, a2, n2, c2, a3, n3, c3, hn0, hn1, hn2, hn3, h⟩ := h.lit (by decide)
 have HC1 := Lib.hid fun W (f : Fr [] w W) => fcutA (SS.fr0 (h.s 2 (by decide)) f) (Nat.le_trans (hb 2) (by decide)) key
 have HC2 := Lib.hid fun W (f : Fr [] w W) => fcutA (SS.fr0 (h.s 3 (by decide)) f) (Nat.le_trans (hb 3) (by decide)) key
 have k2 := h.k (i := 2) (by decide)
 have k3 := h.k (i := 3) (by decide)
 have k5 := h.kr 1 rfl
 simp only [V4] at k2 k3 HC1 HC2 hn0 hn1 hn2 hn3
 rw [hn0, hn1] at hlen
 rw [hn0] at l0
 rw [hn1] at l1
 have HRV := Lib.hid h
 have HLE : Hid (e < w.heap.size) := lt_of_block h.b.blk
 have HD := Lib.hid hdr
 obtain ⟨K1, hK1⟩ : ∃ K1, pushK K 0 key = K1 := ⟨_, rfl⟩
 have g0 : (K1 0).length = n0 + 1 := by rw [← hK1, pushK, up_same, e0, List.length_append]; show (K 0).length + 1 = _; rw [hn0]
 have g1 : (K1 1).length = n1 := by rw [← hK1, pushK, up_other _ _ _ _ (by decide), e1]; exact hn1
 have g2 : (K1 2).length ≤ 4000 := by rw [← hK1, pushK, up_other _ _ _ _ (by decide)]; exact l2
 have g3 : (K1 3).length ≤ 4000 := by rw [← hK1, pushK, up_other _ _ _ _ (by decide)]; exact l3
 have HK1 := Lib.hid hK1
 rw [hK1]
 have q1 : decide (c ≤ Arc.len ⟨K, p, c⟩) = false := decide_eq_false (by omega)
 have q2 : (Arc.len ⟨K, p, c⟩ : Int) < (c : Int) := by omega
 have hnc : n0 + 1 ≤ c := by omega
 have hnc2 : n0 + 1 + n1 ≤ c := by omega
 generalize Arc.len ⟨K, p, c⟩ = n at *
 clear h hb hin hno hq hlen hdr hn0 hn1 hn2 hn3 l2 l3 e0 e1 hi hl hK1
 go_enter Tryz.func119, Tryz.ntmps119
 go_wp2
 go_quiet (first | (go_at_call 170; exact Calls.quiet_of_same (HH.out _)) | (go_at_call 179; exact Calls.quiet_of (HL.out _)))
 go_wp2_with fail
 refine wp_region_invX (fun j v _ => match j with | 0 | 1 | 2 | 3 | 8 | 9 | 14 | 17 => v = ptr e | 6 | 12 => v = .string key | 5 => v = .slice a2 n2 c2 | 11 => v = .slice a3 n3 c3 | 4 | 15 => v = .pointer (some ⟨e, 2, none⟩) | 10 | 18 => v = .pointer (some ⟨e, 3, none⟩) | _ => True)
  (fun D X wz => Hid (Two w e 2 3 (cutQ (K 2) key) (cutQ (K 3) key) (D 7) (D 13) (D 16) (D 19) (X 7) (X 13) wz)) (fun _ _ => True) (by kernel_rfl) (by kernel_rfl) (by kernel_rfl) (fun _ _ _ _ h _ => h) ?hS ?hops ?hfin
 case hS => exact fun X => Two.start (((Fr.refl [] w).drewN nq).drew) _ _
 case hops =>
  repeat' (first | exact OpsOkX.nil | refine OpsOkX.cons ?_ ?_)
  all_goals try exact rgTX
  ·skip
   intro D X w' K hD hcl hS hA hI hK
   have d16 := hcl.not hD 16 (by kernel_rfl)
   have d19 := hcl.not hD 19 (by kernel_rfl)
   have t0 := hS.out
   rw [d16, d19] at t0
   have kk := cell_fr t0.at0 k2 (by simp)
   simp only [afterI, Region.binds, forall_const] at hI
   simp only [putL, pE0, pE1, pE4, pE5, pE6, Nat.reduceAdd, up, Nat.reduceEqDiff, if_true, if_false, reduceIte] at hK ⊢
   try simp only [hI] at hK
   go_simp
   exact hK.out _ _ rfl hS trivial
  ·skip
   intro D X w' K hD hcl hS hA hI hK
   have d13 := hcl.not hD 13 (by kernel_rfl)
   have d16 := hcl.not hD 16 (by kernel_rfl)
   have d19 := hcl.not hD 19 (by kernel_rfl)
   have t0 := hS.out
   rw [hD, d13, d16, d19] at t0
   simp only [afterI, Region.binds, forall_const] at hI
   simp only [putL, pE0, pE1, pE4, pE5, pE6, Nat.reduceAdd, up, Nat.reduceEqDiff, if_true, if_false, reduceIte] at hK ⊢
   try simp only [hI] at hK
   go_simp
   refine (HC1.out _ t0.at0).mono ?_
   rintro en w3 ⟨va, vn, vc, rfl, g, f⟩
   refine hK.out _ _ trivial ?_ trivial
   show Two _ _ _ _ _ _ true (D 13) (D 16) (D 19) _ _ _
   rw [d13, d16, d19]
   exact Two.one t0 g f
  ·skip
   intro D X w' K hD hcl hS hA hI hK
   have d16 := hcl.not hD 16 (by kernel_rfl)
   have d19 := hcl.not hD 19 (by kernel_rfl)
   have t0 := hS.out
   rw [d16, d19] at t0
   have kk := cell_fr t0.at0 k3 (by simp)
   simp only [afterI, Region.binds, forall_const] at hI
   simp only [putL, pE0, pE1, pE4, pE5, pE6, Nat.reduceAdd, up, Nat.reduceEqDiff, if_true, if_false, reduceIte] at hK ⊢
   try simp only [hI] at hK
   go_simp
   exact hK.out _ _ rfl hS trivial
  ·skip
   intro D X w' K hD hcl hS hA hI hK
   have d7 := hA { on := 7, ground := .chain } (by simp) rfl
   have d16 := hcl.not hD 16 (by kernel_rfl)
   have d19 := hcl.not hD 19 (by kernel_rfl)
   have t0 := hS.out
   rw [hD, d7, d16, d19] at t0
   simp only [afterI, Region.binds, forall_const] at hI
   simp only [putL, pE0, pE1, pE4, pE5, pE6, Nat.reduceAdd, up, Nat.reduceEqDiff, if_true, if_false, reduceIte] at hK ⊢
   try simp only [hI] at hK
   go_simp
   refine (HC2.out _ t0.at0).mono ?_
   rintro en w3 ⟨va, vn, vc, rfl, g, f⟩
   refine hK.out _ _ trivial ?_ trivial
   show Two _ _ _ _ _ _ (D 7) true (D 16) (D 19) _ _ _
   rw [d7, d16, d19]
   exact Two.two t0 g f
  ·skip
   intro D X w' K hD hcl hS hA hI hK
   have d7 := hA { on := 7, ground := .data } (by simp) rfl
   have d13 := hA { on := 13, ground := .chain } (by simp) rfl
   have d19 := hcl.not hD 19 (by kernel_rfl)
   have t0 := hS.out
   rw [hD, d7, d13, d19] at t0
   have hx := Two.lit1 t0
   generalize slA (X 7) = va at hx
   generalize slN (X 7) = vn at hx
   generalize slC (X 7) = vc at hx
   have kk := (HRV.out.c0 t0.at0 2).1.trans k2
   have ky := (HRV.out.c0 t0.at0 2).2
   have t1 := Lib.hid (Two.set1 t0)
   simp only [afterI, Region.binds, forall_const] at hI
   simp only [putL, pE0, pE1, pE4, pE5, pE6, Nat.reduceAdd, up, Nat.reduceEqDiff, if_true, if_false, reduceIte] at hK ⊢
   try simp only [hI] at hK
   simp only [hx] at hK t1 ⊢
   clear t0
   go_simp
   refine hK.out undef _ trivial ?_ trivial
   show Two _ _ _ _ _ _ (D 7) (D 13) true (D 19) _ _ _
   rw [d7, d13, d19]
   exact t1.out
  ·skip
   intro D X w' K hD hcl hS hA hI hK
   have d16 := hA { on := 16, ground := .chain } (by simp) rfl
   have d13 := hA { on := 13, ground := .data } (by simp) rfl
   have d7 := hcl 16 _ rfl d16 { on := 7, ground := .data } (by simp) rfl
   have t0 := hS.out
   rw [hD, d7, d13, d16] at t0
   have hx := Two.lit2 t0
   generalize slA (X 13) = va at hx
   generalize slN (X 13) = vn at hx
   generalize slC (X 13) = vc at hx
   have kk := (t0.at1 HLE.out (by decide)).1.trans k3
   have ky := (t0.at1 HLE.out (by decide)).2.trans (HRV.out.fz 3)
   have t1 := Lib.hid (Two.set2 t0)
   simp only [afterI, Region.binds, forall_const] at hI
   simp only [putL, pE0, pE1, pE4, pE5, pE6, Nat.reduceAdd, up, Nat.reduceEqDiff, if_true, if_false, reduceIte] at hK ⊢
   try simp only [hI] at hK
   simp only [hx] at hK t1 ⊢
   clear t0
   go_simp
   refine hK.out undef _ trivial ?_ trivial
   show Two _ _ _ _ _ _ (D 7) (D 13) (D 16) true _ _ _
   rw [d7, d13, d16]
   exact t1.out
 case hfin =>
  intro D X wa hS hD hI
  simp only [putL, pE0, pE1, pE4, pE5, pE6, Nat.reduceAdd]
  have t0 := hS.out
  rw [hD 7 (by decide), hD 13 (by decide), hD 16 (by decide), hD 19 (by decide)] at t0
  have HTW := Lib.hid (Two.fin t0 HRV.out (by decide) (by decide))
  generalize X 7 = x1 at *
  generalize X 13 = x2 at *
  clear t0 hS hD hI
  obtain ⟨F2, r1, s1, t1⟩ := HTW.out
  rw [up_strR, up_strR, HD.out] at r1
  have HT9 := Lib.hid r1
  have HF9 := Lib.hid (And.intro s1 t1)
  clear r1 s1 t1 HTW HC1 HC2
  obtain ⟨A0, N0, C0, A1, N1, C1, A2, N2, C2, A3, N3, C3, M0, M1, M2, M3, hT⟩ := HT9.out.lit (by decide)
  have z0 := hT.k (i := 0) (by decide)
  have HT := Lib.hid hT
  have zf := hT.fz 0
  have zl : e < wa.heap.size := lt_of_block hT.b.blk
  have zn : ¬ e = wa.heap.size := by omega
  simp only [V4] at z0
  clear hT M0 M1 M2 M3
  go_wp2_with (at_builtin; refine app_list rfl _ _ rfl (.slice (some ⟨wa.heap.size, 0, none⟩) 0 0) (.slice A0 N0 C0) [] (dropK K key 0) rfl rfl ?hsl ?src ?hb ?_)
  case hsl => exact SS.empty _
  case src => exact SS.src (SS.fr0 (HT.out.s 0 (by decide)) ((Fr.refl [] _).alloc _))
  case hb => show 0 + _ ≤ _; have := HLB.out; omega
  intro b5 n5 c5 w5 hn5 ha5
  obtain ⟨g5, f5⟩ := ha5.new ((Fr.refl [] wa).alloc _) (by intro q hq; simp [Value.ownBlock] at hq; omega)
  have G5 := Lib.hid (And.intro g5 f5)
  have z0 := (HT.out.c0 f5 0).1.trans z0
  have zf := (HT.out.c0 f5 0).2
  clear ha5 g5 f5 hn5
  go_wp2_with (at_builtin; refine app_list rfl _ _ rfl (.slice b5 n5 c5) (.slice (some ⟨w5.heap.size, 0, none⟩) 1 1) (dropK K key 0) [key] rfl rfl ?hsl ?src ?hb ?_)
  case hsl => exact SS.fr0 G5.out.1.1 ((Fr.refl [] _).alloc _)
  case src => exact SS.src (SS.one w5 key)
  case hb => show _ + 1 ≤ _; have := HLB.out; omega
  intro b6 n6 c6 w6 hn6 ha6
  obtain ⟨g6, f6⟩ := ha6.new (G5.out.2.alloc _) G5.out.1.2
  have HSN := Lib.hid (RV.cut (i := 0) HT.out (by decide) f6 g6)
  have z0 := (HT.out.c0 f6 0).1.trans (HT.out.k (i := 0) (by decide))
  have zf := (HT.out.c0 f6 0).2
  clear ha6 g6 f6 hn6
  have HS0 : Hid (RArcGo w e F K1 p c (w6.setCell ⟨e, 0, none⟩ (.slice b6 n6 c6))) := by
   have q := RG.trans HF9.out.1 HF9.out.2 HSN.out
   rw [up_strR] at q
   refine RG.arc q ?_
   rw [← HK1.out]; rfl
  clear HSN
  go_wp2_with fail
  go_loopw [] (fun wr => ∃ j : Nat, j ≤ (K1 2).length - (c - (n0 + 1)) ∧ Hid (RArcGo w e F (up K1 2 ((K1 2).drop j)) p c wr)) (fun wr => rowN wr e 2)
  case atStart => exact ⟨0, Nat.zero_le _, by rw [List.drop_zero, up_self]; exact HS0.out⟩
  case round =>
   obtain ⟨j, hj, hG⟩ := hrel
   obtain ⟨F', ⟨V', h'⟩, s', t'⟩ := hG.out
   obtain ⟨A0, N0, C0, A1, N1, C1, A2, N2, C2, A3, N3, C3, M0, M1, M2, M3, h'⟩ := h'.lit (by decide)
   have y0 := h'.k (i := 0) (by decide)
   have y2 := h'.k (i := 2) (by decide)
   have y5 := h'.kr 1 rfl
   have yf := h'.fz 2
   simp only [V4] at y0 y2 M0 M2
   rw [up_other _ _ _ _ (by decide), g0] at M0
   rw [up_same, List.length_drop] at M2
   by_cases hlt : c < N0 + N2
   ·have hne : (K1 2).drop j ≠ [] := len_pos (by rw [List.length_drop]; omega)
    obtain ⟨x2, d2, hrun, htl⟩ := tailS (a := A2) (m := N2) (c := C2) hne (by rw [List.length_drop]; exact M2)
    have HT := Lib.hid fun m => RG.old (htl (i := 2) (h'.fr0 ((Fr.refl [] wr).drewN m)) (by decide) (by show strR _ = _; rw [up_same]) rfl) ((Fr.refl [] wr).drewN m)
    have HST := Lib.hid (And.intro s' t')
    have q1 : (c : Int) < (N0 : Int) + (N2 : Int) := by omega
    have hrow := rowN_of y2
    clear h' htl s' t'
    go_wp2
    go_quiet (fail)
    go_wp2
    refine ⟨⟨j + 1, by omega, ?_⟩, ?_⟩
    ·refine RG.arc (RG.trans HST.out.1 HST.out.2 (HT.out _)) ?_
     rw [up_strR, up_up_same, drop_tail]
    ·obtain ⟨F3, r3, _, _⟩ := HT.out nq
     rw [hrow]
     refine Nat.lt_of_le_of_lt (Nat.le_of_eq (rowN_of (n := N2 - 1) (r3.k (i := 2) (by decide)))) (by omega)
   ·have hj1 : j = (K1 2).length - (c - (n0 + 1)) := by omega
    have HG2 : Hid (RArcGo w e F (arcTrim2 c K1) p c wr) := by
     have := hG.out
     rw [hj1, ← g0] at this
     exact this
    have q1 : decide (c < N0 + N2) = false := decide_eq_false hlt
    have q1' : (N0 : Int) + (N2 : Int) ≤ (c : Int) := by omega
    obtain ⟨K2, hK2⟩ : ∃ K2, arcTrim2 c K1 = K2 := ⟨_, rfl⟩
    have b0 : (K2 0).length = n0 + 1 := by rw [← hK2, arcTrim2, trim, up_other _ _ _ _ (by decide)]; exact g0
    have b1 : (K2 1).length = n1 := by rw [← hK2, arcTrim2, trim, up_other _ _ _ _ (by decide)]; exact g1
    have b3 : (K2 3).length ≤ 4000 := by rw [← hK2, arcTrim2, trim, up_other _ _ _ _ (by decide)]; exact g3
    have b2 : (K2 2).length ≤ c := by rw [← hK2, arcTrim2, trim, up_same, List.length_drop]; omega
    obtain ⟨t2, ht2⟩ : ∃ t, (K2 2).length = t := ⟨_, rfl⟩
    rw [ht2] at b2
    rw [hK2] at HG2
    have HK2 := Lib.hid hK2
    have HST := Lib.hid (And.intro s' t')
    clear h' s' t' hG hj hj1 hK2 HS0 HK1 hlt
    go_wp2
    go_quiet (fail)
    go_wp2_with fail
    have HG3 : Hid (RArcGo w e F K2 p c (wr.drewN nq)) := by obtain ⟨F3, a, b, d⟩ := HG2.out; exact ⟨F3, a.fr0 ((Fr.refl [] _).drewN _), b, d.drewN _⟩
    generalize wr.drewN nq = wy at *
    go_loopw [] (fun wr => ∃ j : Nat, j ≤ (K2 3).length - (2 * c - (n0 + 1 + n1 + t2)) ∧ Hid (RArcGo w e F (up K2 3 ((K2 3).drop j)) p c wr)) (fun wr => rowN wr e 3)
    case atStart => exact ⟨0, Nat.zero_le _, by rw [List.drop_zero, up_self]; exact HG3.out⟩
    case round =>
     obtain ⟨j, hj, hG⟩ := hrel
     obtain ⟨F', h0, s', t'⟩ := hG.out
     have HL2 := Lib.hid fun m => r10len (h0.fr0 ((Fr.refl [] wr).drewN m)) (by rw [up_other _ _ _ _ (by decide), up_other _ _ _ _ (by decide), b0, b1]; omega)
     rw [up_other _ _ _ _ (by decide), up_other _ _ _ _ (by decide), b0, b1] at HL2
     obtain ⟨V', h'⟩ := h0
     obtain ⟨A0, N0, C0, A1, N1, C1, A2, N2, C2, A3, N3, C3, M0, M1, M2, M3, h'⟩ := h'.lit (by decide)
     have y2 := h'.k (i := 2) (by decide)
     have y3 := h'.k (i := 3) (by decide)
     have y5 := h'.kr 1 rfl
     have yf := h'.fz 3
     simp only [V4] at y2 y3 M2 M3
     rw [up_other _ _ _ _ (by decide), ht2] at M2
     rw [up_same, List.length_drop] at M3
     obtain ⟨q, hq⟩ : ∃ q, n0 + 1 + n1 = q := ⟨_, rfl⟩
     rw [hq] at HL2 hj ⊢
     by_cases hlt : 2 * c < q + N2 + N3
     ·have hne : (K2 3).drop j ≠ [] := len_pos (by rw [List.length_drop]; omega)
      obtain ⟨x2, d2, hrun, htl⟩ := tailS (a := A3) (m := N3) (c := C3) hne (by rw [List.length_drop]; exact M3)
      have HT := Lib.hid fun m => RG.old (htl (i := 3) (h'.fr0 ((Fr.refl [] wr).drewN m)) (by decide) (by show strR _ = _; rw [up_same]) rfl) ((Fr.refl [] wr).drewN m)
      have HST := Lib.hid (And.intro s' t')
      have q1 : 2 * (c : Int) < (q : Int) + (N2 : Int) + (N3 : Int) := by omega
      have hrow := rowN_of y3
      clear h' htl s' t'
      go_wp2
      go_quiet (first | (go_at_call 179; exact Calls.quiet_of (HL2.out _)))
      go_wp2
      refine ⟨⟨j + 1, by omega, ?_⟩, ?_⟩
      ·refine RG.arc (RG.trans HST.out.1 HST.out.2 (HT.out _)) ?_
       rw [up_strR, up_up_same, drop_tail]
      ·obtain ⟨F3, r3, _, _⟩ := HT.out nq
       rw [hrow]
       refine Nat.lt_of_le_of_lt (Nat.le_of_eq (rowN_of (n := N3 - 1) (r3.k (i := 3) (by decide)))) (by omega)
     ·have hj1 : j = (K2 3).length - (2 * c - (q + t2)) := by omega
      have HG4 : Hid (RArcGo w e F (arcTrim3 c (arcTrim2 c K1)) p c wr) := by
       have := hG.out
       rw [hj1, ← hq, ← b0, ← b1, ← ht2] at this
       rw [HK2.out]
       exact this
      have q1 : decide (2 * (c : Int) < (q : Int) + (N2 : Int) + (N3 : Int)) = false := decide_eq_false (by omega)
      have q1' : (q : Int) + (N2 : Int) + (N3 : Int) ≤ 2 * (c : Int) := by omega
      clear h' s' t' hG hj hj1 hlt
      go_wp2
      go_quiet (first | (go_at_call 179; exact Calls.quiet_of (HL2.out _)))
      go_wp2
      go_ret
      obtain ⟨F3, a, b, d⟩ := HG4.out
      exact ⟨rfl, F3, a.fr0 ((Fr.refl [] _).drewN _), b, d.drewN _⟩
theorem r10load (h : RE10 w e F s) (key : ByteArray) (hz : key.size ≤ maxLen) : Calls Tryz.prog 119 #[ptr e, .string key] w (StepRet RE10 w e F (.bool (s.load key).1) (s.load key).2) := by
 have hinv := h.1.load hz
 unfold Arc.load at hinv ⊢
 by_cases hin : s.has key = true ∨ s.len = s.c
 ·rw [if_pos hin]
  exact r10load_no h key hin
 ·rw [if_neg hin] at hinv ⊢
  have h1 : s.has key = false := by cases q : s.has key; rfl; exact absurd (.inl q) hin
  have h2 : s.len < s.c := by have := h.1.res; have : s.len ≠ s.c := fun q => hin (.inr q); unfold Arc.len at *; omega
  refine (r10load_go h key hz h1 h2).mono ?_
  rintro en w' ⟨rfl, F', a, b, d⟩
  exact ⟨rfl, F', ⟨hinv, a⟩, b, d⟩
end
end Go.Proofs.YtfeicmpbfbhiiaaGreat
set_option linter.unusedVariables false
set_option linter.unusedSimpArgs false
namespace Go.Proofs.YtfeicmpbfbhiiaaGreat
open Go.RowKit
attribute [local go_sem ↓] Go.wp_at_zero Go.wp_at_succ
def RTwo (w : World) (e : Nat) (F : List Nat) (K : Rows) (c : Nat) : Prop := ∃ V, RV 3 163 w e F [] V (fun i => strR (K i)) [.int .i64 (c : Nat)]
def RTwoGo (w : World) (e : Nat) (F : List Nat) (K : Rows) (c : Nat) (w' : World) : Prop := ∃ F', RTwo w' e F' K c ∧ Sub F' F w ∧ Fr F w w'
section
variable {w w' : World} {e c : Nat} {F G : List Nat} {K : Rows}
theorem RTwo.fr (h : RTwo w e F K c) (f : Fr G w w') (hd : Dis F G) : RTwo w' e F K c := by
 obtain ⟨V, h⟩ := h
 exact ⟨V, h.fr f hd⟩
theorem RTwo.fr0 (h : RTwo w e F K c) (f : Fr [] w w') : RTwo w' e F K c := h.fr f (fun _ _ => by simp)
theorem RTwo.lt (h : RTwo w e F K c) : Lt F w := by
 obtain ⟨V, h⟩ := h
 exact h.lt
set_option maxRecDepth 100000 in
theorem r11len (h : RTwo w e F K c) (hb : (K 0).length + (K 2).length ≤ 500000) : Calls Tryz.prog 186 #[ptr e] w fun en w' => en = .returned (.int .i64 ((K 0).length + (K 2).length : Nat)) ∧ ∃ m, w' = w.drewN m := by
 obtain ⟨V, h⟩ := h
 obtain ⟨a0, n0, c0, a1, n1, c1, a2, n2, c2, a3, n3, c3, hn0, hn1, hn2, hn3, h⟩ := h.lit (by decide)
 have k0 := h.k (i := 0) (by decide)
 have k1 := h.k (i := 2) (by decide)
 simp only [V4] at k0 k1 hn0 hn2
 rw [hn0, hn2] at hb ⊢
 clear h hn0 hn1 hn2 hn3
 go_enter Tryz.func186, Tryz.ntmps186
 go_wp2
 go_quiet (fail)
 go_wp2
 go_ret
 exact ⟨rfl, _, rfl⟩
set_option maxRecDepth 100000 in
theorem r11has (h : RTwo w e F K c) (hb : ∀ i, (K i).length ≤ 100000) (key : ByteArray) : Calls Tryz.prog 172 #[ptr e, .string key] w fun en w' => en = .returned (.bool (decide (key ∈ K 0 ∨ key ∈ K 2))) ∧ w' = w := by
 obtain ⟨V, h⟩ := h
 obtain ⟨a0, n0, c0, a1, n1, c1, a2, n2, c2, a3, n3, c3, hn0, hn1, hn2, hn3, h⟩ := h.lit (by decide)
 have HC0 := Lib.hid (fhasQ (h.s 0 (by decide)) (Nat.le_trans (hb 0) (by decide)) key)
 have HC1 := Lib.hid (fhasQ (h.s 2 (by decide)) (Nat.le_trans (hb 2) (by decide)) key)
 have k0 := h.k (i := 0) (by decide)
 have k1 := h.k (i := 2) (by decide)
 simp only [V4] at k0 k1 HC0 HC1
 have m0 := rhas_mem (l := K 0) (key := key)
 have m1 := rhas_mem (l := K 2) (key := key)
 obtain ⟨r0, hr0⟩ : ∃ r, rhas (K 0) key = r := ⟨_, rfl⟩
 obtain ⟨r1, hr1⟩ : ∃ r, rhas (K 2) key = r := ⟨_, rfl⟩
 rw [hr0] at HC0 m0
 rw [hr1] at HC1 m1
 clear h hn0 hn1 hn2 hn3 hr0 hr1
 have hd : decide (key ∈ K 0 ∨ key ∈ K 2) = decide (0 ≤ r0 ∨ 0 ≤ r1) := by rw [decide_eq_decide, m0, m1]
 rw [hd]
 clear hd m0 m1
 by_cases q0 : 0 ≤ r0
 ·have b0 : decide (0 ≤ r0) = true := decide_eq_true q0
  have b : decide (0 ≤ r0 ∨ 0 ≤ r1) = true := decide_eq_true (.inl q0)
  rw [b]
  clear b
  go_enter Tryz.func172, Tryz.ntmps172
  go_wp2_with fail
  refine HC0.out.mono ?_
  rintro en w1 ⟨rfl, rfl⟩
  go_wp2
  go_ret
  exact ⟨rfl, rfl⟩
 ·have b0 : decide (0 ≤ r0) = false := decide_eq_false q0
  have q0' : r0 < 0 := by omega
  have b : decide (0 ≤ r0 ∨ 0 ≤ r1) = decide (0 ≤ r1) := by simp [q0]
  rw [b]
  clear b
  go_enter Tryz.func172, Tryz.ntmps172
  go_wp2_with fail
  refine HC0.out.mono ?_
  rintro en w1 ⟨rfl, rfl⟩
  go_wp2_with fail
  refine HC1.out.mono ?_
  rintro en w1 ⟨rfl, rfl⟩
  go_wp2
  go_ret
  exact ⟨rfl, rfl⟩
theorem RG.two {V : Nat → Value} {X : Nat → RowD} {K' : Rows} {c : Nat} (h : RG 3 163 w e F [] V X [.int .i64 (c : Nat)] w') (hX : X = fun i => strR (K' i)) : RTwoGo w e F K' c w' := by
 obtain ⟨F', h1, h2, h3⟩ := h
 subst hX
 exact ⟨F', ⟨V, h1⟩, h2, h3⟩
end
/-- The document's engine of chapter 11. -/
def RE11 (w : World) (e : Nat) (F : List Nat) (s : Twoq) : Prop := s.Inv ∧ RTwo w e F s.K s.c
theorem Twoq.Inv.len {s : Twoq} (h : s.Inv) (i : Nat) : (s.K i).length ≤ 4000 := by
 have h1 := h.res
 have h2 := h.c2
 have h3 := h.out
 unfold Twoq.kout at h3
 match i with
 | 0 => omega
 | 1 => omega
 | 2 => omega
 | n + 3 => rw [h.nd.out (n + 3) (by omega)]; simp
section
variable {w w' w1 w2 : World} {e : Nat} {F G : List Nat} {s : Twoq}
set_option maxHeartbeats 1000000 in
set_option maxRecDepth 100000 in
theorem r11load_no (h : RE11 w e F s) (key : ByteArray) (hin : s.has key = true ∨ s.len = s.c) : Calls Tryz.prog 121 #[ptr e, .string key] w (StepRet RE11 w e F (.bool false) s) := by
 have hi := h.1
 have hb : ∀ i, (s.K i).length ≤ 100000 := fun i => Nat.le_trans (hi.len i) (by decide)
 have HH := Lib.hid fun m => r11has (h.2.fr0 ((Fr.refl [] w).drewN m)) hb key
 have HL := Lib.hid fun m => r11len (h.2.fr0 ((Fr.refl [] w).drewN m)) (by have := hb 0; have := hb 2; omega)
 have hq : decide (key ∈ s.K 0 ∨ key ∈ s.K 2) = s.has key := rfl
 rw [hq] at HH
 have hlen : (s.K 0).length + (s.K 2).length = s.len := rfl
 rw [hlen] at HL
 have HE := Lib.hid h
 obtain ⟨hi, V, h⟩ := h
 have k5 := h.kr 0 rfl
 generalize s.has key = b at *
 generalize s.len = n at *
 clear h hq hlen hb hi
 cases b with
 | true =>
  go_enter Tryz.func121, Tryz.ntmps121
  go_wp2
  go_quiet (first | (go_at_call 172; exact Calls.quiet_of_same (HH.out _)))
  go_wp2
  go_ret
  exact ⟨rfl, F, ⟨HE.out.1, HE.out.2.fr0 ((Fr.refl [] w).drewN _)⟩, Sub.refl _ _, (Fr.refl _ w).drewN _⟩
 | false =>
  have hnc : n = s.c := by simpa using hin
  have q1 : (s.c : Int) ≤ (n : Int) := by omega
  have q2 : s.c ≤ n := by omega
  clear hin hnc
  go_enter Tryz.func121, Tryz.ntmps121
  go_wp2
  go_quiet (first | (go_at_call 172; exact Calls.quiet_of_same (HH.out _)) | (go_at_call 186; exact Calls.quiet_of (HL.out _)))
  go_wp2
  go_ret
  exact ⟨rfl, F, ⟨HE.out.1, HE.out.2.fr0 ((Fr.refl [] w).drewN _)⟩, Sub.refl _ _, (Fr.refl _ w).drewN _⟩
set_option maxHeartbeats 1000000 in
set_option maxRecDepth 100000 in
theorem r11load (h : RE11 w e F s) (key : ByteArray) (hz : key.size ≤ maxLen) : Calls Tryz.prog 121 #[ptr e, .string key] w (StepRet RE11 w e F (.bool (s.load key).1) (s.load key).2) := by
 have hinv := h.1.load hz
 unfold Twoq.load at hinv ⊢
 by_cases hin : s.has key = true ∨ s.len = s.c
 ·rw [if_pos hin]
  exact r11load_no h key hin
 rw [if_neg hin] at hinv ⊢
 have h1 : s.has key = false := by cases q : s.has key; rfl; exact absurd (.inl q) hin
 have h2 : s.len < s.c := by have := h.1.res; have : s.len ≠ s.c := fun q => hin (.inr q); unfold Twoq.len at *; omega
 clear hin
 have hi := h.1
 have hb : ∀ i, (s.K i).length ≤ 100000 := fun i => Nat.le_trans (hi.len i) (by decide)
 have HH := Lib.hid fun m => r11has (h.2.fr0 ((Fr.refl [] w).drewN m)) hb key
 have HL := Lib.hid fun m => r11len (h.2.fr0 ((Fr.refl [] w).drewN m)) (by have := hb 0; have := hb 2; omega)
 have hq : decide (key ∈ s.K 0 ∨ key ∈ s.K 2) = s.has key := rfl
 have hno : ¬ (key ∈ s.K 0 ∨ key ∈ s.K 2) := by rw [← hq] at h1; simpa using h1
 rw [hq, h1] at HH
 have hlen : (s.K 0).length + (s.K 2).length = s.len := rfl
 rw [hlen] at HL
 have hdr : up (up s.K 1 (cutQ (s.K 1) key)) 2 (s.K 2 ++ [key]) = pushK s.K 2 key := by
  have e1 : up s.K 1 (cutQ (s.K 1) key) = dropK s.K key := up_drop hi.nd (fun i h1 => by
   match i, h1 with
   | 0, _ => exact fun q => hno (.inl q)
   | 2, _ => exact fun q => hno (.inr q)
   | n + 3, _ => rw [hi.nd.out (n + 3) (by omega)]; simp)
  have e2 : dropK s.K key 2 = s.K 2 := dropK_not (fun q => hno (.inr q))
  rw [e1, pushK, e2]
 have HD := Lib.hid hdr
 obtain ⟨hi, V, h⟩ := h
 obtain ⟨a0, n0, c0, a1, n1, c1, a2, n2, c2, a3, n3, c3, hn0, hn1, hn2, hn3, h⟩ := h.lit (by decide)
 have HC := Lib.hid fun W (f : Fr [] w W) => fcutQ (SS.fr0 (h.s 1 (by decide)) f) (Nat.le_trans (hb 1) (by decide)) key
 have k1 := h.k (i := 1) (by decide)
 have k2 := h.k (i := 2) (by decide)
 have k5 := h.kr 0 rfl
 have H := Lib.hid h
 have HB : Hid ((s.K 2).length ≤ 100000) := hb 2
 simp only [V4] at k1 k2 HC
 generalize hs : s.len = n at *
 obtain ⟨K, c⟩ := s
 simp only at *
 have HI := Lib.hid hinv
 have q1 : decide (c ≤ n) = false := decide_eq_false (by omega)
 have q2 : (n : Int) < (c : Int) := by omega
 clear h hb hno hq hlen hdr hn0 hn1 hn2 hn3 hi hinv hs h1 h2
 go_enter Tryz.func121, Tryz.ntmps121
 go_wp2
 go_quiet (first | (go_at_call 172; exact Calls.quiet_of_same (HH.out _)) | (go_at_call 186; exact Calls.quiet_of (HL.out _)))
 go_wp2_with fail
 refine (HC.out _ ((Fr.refl [] w).drewN _)).mono ?_
 rintro en w3 ⟨va, vn, vc, rfl, g3, f3⟩
 have f3' := ((Fr.refl [] w).drewN _).same f3
 have p1 := (H.out.c0 f3' 1).1.trans k1
 have y1 := (H.out.c0 f3' 1).2
 have p2 := (H.out.c0 f3' 2).1.trans k2
 have H3 := Lib.hid (RV.cut (i := 1) H.out (by decide) f3' (g3.old (Nat.le_refl _)))
 clear k1 k2 g3 f3 f3'
 obtain ⟨F3, r3, s3, t3⟩ := H3.out
 have R3 := Lib.hid (And.intro r3 (And.intro s3 t3))
 clear r3 s3 t3 H3
 go_wp2_with (at_builtin; refine app_list rfl _ _ rfl (.slice a2 n2 c2) (.slice (some ⟨w3.heap.size, 0, none⟩) 1 1) (K 2) [key] rfl rfl ?hsl ?src ?hb ?_)
 case hsl => exact SS.fr0 (R3.out.1.s 2 (by decide)) ((Fr.refl [] _).alloc _)
 case src => exact SS.src (by have := SS.one (w3.setCell ⟨e, 1, none⟩ (.slice va vn vc)) key; rw [World.size_setCell] at this; exact this)
 case hb => have := HB.out; show _ + 1 ≤ _; omega
 intro b' n' c' w4 hn' happ
 have HR : Hid (RTwoGo w e F (pushK K 2 key) c (w4.setCell ⟨e, 2, none⟩ (.slice b' n' c'))) := by
  obtain ⟨r1, s1, t1⟩ := R3.out
  refine RG.two (RG.trans s1 t1 (RV.app (i := 2) r1 (by decide) ((Fr.refl [] _).alloc _) happ)) ?_
  rw [up_strR, up_strR, HD.out]
 have z1 := (RV.c1 (i := 2) R3.out.1 (by decide) ((Fr.refl [] _).alloc _) happ 2).1.trans (R3.out.1.k (i := 2) (by decide))
 have z2 := (RV.c1 (i := 2) R3.out.1 (by decide) ((Fr.refl [] _).alloc _) happ 2).2
 clear happ hn' p1 y1 p2
 go_wp2
 go_ret
 obtain ⟨F4, a, b, d⟩ := HR.out
 exact ⟨rfl, F4, ⟨HI.out, a⟩, b, d⟩
end
end Go.Proofs.YtfeicmpbfbhiiaaGreat
