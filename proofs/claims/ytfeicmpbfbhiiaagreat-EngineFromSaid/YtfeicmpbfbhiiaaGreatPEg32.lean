/- Texts of a proof about the given program, those parts that this claim reaches. -/
import Derived.Test.YtfeicmpbfbhiiaaGreatPEg31
set_option linter.unusedVariables false
set_option linter.unusedSimpArgs false
namespace Go.Proofs.YtfeicmpbfbhiiaaGreat
open Go.RowKit
open Act renaming put → pE0
open List renaming getElem_toArray → pE1, getElem_cons_succ → pE2, getElem_cons_zero → pE3, setIfInBounds_toArray → pE4, set_cons_zero → pE5, set_cons_succ → pE6
attribute [local go_sem ↓] Go.wp_at_zero Go.wp_at_succ
def KS (w : World) (lI lJ : List ByteArray) (d0 d5 d10 : Bool) (x0 x5 x10 : Value) (wz : World) : Prop :=
 Fr [] w wz ∧ (d5 = false → d0 = true → Gone w wz x0 []) ∧ (d10 = false → d5 = true → Gone w wz x5 lI) ∧ (d10 = true → Gone w wz x10 (lI ++ lJ))
section
variable {w wz w2 : World} {lI lJ : List ByteArray} {d0 d5 d10 : Bool} {x0 x5 x10 v : Value}
theorem KS.start (f : Fr [] w wz) (x0 x5 x10 : Value) : KS w lI lJ false false false x0 x5 x10 wz := ⟨f, fun _ h => by (cases h), fun _ h => by (cases h), fun h => by (cases h)⟩
theorem KS.zero (h : KS w lI lJ false false false x0 x5 x10 wz) : KS w lI lJ true false false (.slice (some ⟨wz.heap.size, 0, none⟩) 0 0) x5 x10 (wz.alloc (.cells #[] 9)) := by
 have f := h.1
 refine ⟨f.alloc _, fun _ _ => ⟨SS.empty wz, by intro b hb; simp [Value.ownBlock] at hb; have := f.size; omega⟩, fun _ h => by (cases h), fun h => by (cases h)⟩
theorem KS.one (h : KS w lI lJ true false false x0 x5 x10 wz) (a : AppS wz x0 ([] ++ lI) v w2) : KS w lI lJ true true false x0 v x10 w2 := by
 obtain ⟨g, f⟩ := a.new h.1 (h.2.1 rfl rfl).2
 rw [List.nil_append] at g
 exact ⟨f, fun h => by (cases h), fun _ _ => g, fun h => by (cases h)⟩
theorem KS.two (h : KS w lI lJ true true false x0 x5 x10 wz) (a : AppS wz x5 (lI ++ lJ) v w2) : KS w lI lJ true true true x0 x5 v w2 := by
 obtain ⟨g, f⟩ := a.new h.1 (h.2.2.1 rfl rfl).2
 exact ⟨f, fun h => by (cases h), fun h => by (cases h), fun _ => g⟩
end
set_option maxHeartbeats 1000000 in
set_option maxRecDepth 100000 in
theorem r10keysK {w : World} {e : Nat} {F : List Nat} {K : Rows} {p c : Nat} (h : RArc w e F K p c) (hb : ∀ i, (K i).length ≤ 4000) : Calls Tryz.prog 129 #[ptr e] w (KeysRet w (K 0 ++ K 1)) := by
 obtain ⟨V, h⟩ := h
 obtain ⟨a0, n0, c0, a1, n1, c1, a2, n2, c2, a3, n3, c3, hn0, hn1, hn2, hn3, h⟩ := h.lit (by decide)
 have kI := h.k (i := 0) (by decide)
 have kJ := h.k (i := 1) (by decide)
 have HI : Hid (SS w (.slice a0 n0 c0) (K 0)) := h.s 0 (by decide)
 have HJ : Hid (SS w (.slice a1 n1 c1) (K 1)) := h.s 1 (by decide)
 have HB : Hid ((K 0).length ≤ 4000 ∧ (K 1).length ≤ 4000) := ⟨hb 0, hb 1⟩
 simp only [V4] at kI kJ
 generalize K 0 = lI at *
 generalize K 1 = lJ at *
 clear h hb hn0 hn1 hn2 hn3
 go_enter Tryz.func129, Tryz.ntmps129
 go_wp2_with fail
 refine wp_region_invX (fun j v _ => match j with | 1 | 2 | 6 | 7 => v = ptr e | 3 => v = .pointer (some ⟨e, 0, none⟩) | 8 => v = .pointer (some ⟨e, 1, none⟩) | 4 => v = .slice a0 n0 c0 | 9 => v = .slice a1 n1 c1 | _ => True)
  (fun D X wz => Hid (KS w lI lJ (D 0) (D 5) (D 10) (X 0) (X 5) (X 10) wz) ∧ (D 11 = true → X 11 = X 10)) (fun _ _ => True) (by kernel_rfl) (by kernel_rfl) (by kernel_rfl) (fun _ _ _ _ h _ => h) ?hS ?hops ?hfin
 case hS => exact fun X => ⟨KS.start ((Fr.refl [] _).drew) _ _ _, fun h => by (cases h)⟩
 case hops =>
  repeat' (first | exact OpsOkX.nil | refine OpsOkX.cons ?_ ?_)
  all_goals try exact rgTX
  ·skip
   intro D X w' K hD hcl hS hA hI hK
   have d5 := hcl.not hD 5 (by kernel_rfl)
   have d10 := hcl.not d5 10 (by kernel_rfl)
   have d11 := hcl.not d10 11 (by kernel_rfl)
   have t0 := hS.1.out
   have hD : D 0 = false := hD
   rw [hD, d5, d10] at t0
   have t1 := Lib.hid (KS.zero t0)
   clear t0
   simp only [putL, pE0, pE1, pE4, pE5, pE6, Nat.reduceAdd, up, Nat.reduceEqDiff, if_true, if_false, reduceIte] at hK ⊢
   go_simp
   refine hK.out _ _ trivial ⟨?_, fun h => absurd (show D 11 = true from h) (by rw [d11]; decide)⟩ trivial
   show KS _ _ _ true (D 5) (D 10) _ _ _ _
   rw [d5, d10]
   exact t1.out
  ·skip
   intro D X w' K hD hcl hS hA hI hK
   have kk := cell_fr hS.1.out.1 kI (by simp)
   simp only [afterI, Region.binds, forall_const] at hI
   simp only [putL, pE0, pE1, pE4, pE5, pE6, Nat.reduceAdd, up, Nat.reduceEqDiff, if_true, if_false, reduceIte] at hK ⊢
   try simp only [hI] at hK
   go_simp
   exact hK.out _ _ rfl hS trivial
  ·skip
   intro D X w' K hD hcl hS hA hI hK
   have hD : D 5 = false := hD
   have d0 : D 0 = true := hA { on := 0, ground := .data } (by simp) rfl
   have d10 := hcl.not hD 10 (by kernel_rfl)
   have d11 := hcl.not d10 11 (by kernel_rfl)
   have t0 := hS.1.out
   rw [hD, d0, d10] at t0
   have x4 : X 4 = .slice a0 n0 c0 := by simp only [afterI, Region.binds, forall_const] at hI; exact hI.2.1
   simp only [putL, pE0, pE1, pE4, pE5, pE6, Nat.reduceAdd, up, Nat.reduceEqDiff, if_true, if_false, reduceIte] at hK ⊢
   refine app_stepY (.tmp 3) (.tmp 7) (X 0) (X 4) [] lI (t0.2.1 rfl rfl).1 (by rw [x4]; exact SS.src (SS.fr0 HI.out t0.1)) (by have := HB.out.1; simp; omega) ?h0 ?h1 ?h2 ?h3 ?h4 ?h6
   case h0 => rfl
   case h1 => rfl
   case h2 => rfl
   case h3 => rfl
   case h4 => rfl
   intro b n c w2 hn happ
   refine hK.out (.slice b n c) w2 trivial ⟨?_, fun h => absurd (show D 11 = true from h) (by rw [d11]; decide)⟩ trivial
   show KS _ _ _ (D 0) true (D 10) _ _ _ _
   rw [d0, d10]
   exact KS.one t0 happ
  ·skip
   intro D X w' K hD hcl hS hA hI hK
   have kk := cell_fr hS.1.out.1 kJ (by simp)
   simp only [afterI, Region.binds, forall_const] at hI
   simp only [putL, pE0, pE1, pE4, pE5, pE6, Nat.reduceAdd, up, Nat.reduceEqDiff, if_true, if_false, reduceIte] at hK ⊢
   try simp only [hI] at hK
   go_simp
   exact hK.out _ _ rfl hS trivial
  ·skip
   intro D X w' K hD hcl hS hA hI hK
   have hD : D 10 = false := hD
   have d5 : D 5 = true := hA { on := 5, ground := .data } (by simp) rfl
   have d0 : D 0 = true := hcl 5 _ rfl d5 { on := 0, ground := .data } (by simp) rfl
   have d11 := hcl.not hD 11 (by kernel_rfl)
   have t0 := hS.1.out
   rw [hD, d0, d5] at t0
   have x9 : X 9 = .slice a1 n1 c1 := by simp only [afterI, Region.binds, forall_const] at hI; exact hI.2.1
   simp only [putL, pE0, pE1, pE4, pE5, pE6, Nat.reduceAdd, up, Nat.reduceEqDiff, if_true, if_false, reduceIte] at hK ⊢
   refine app_stepY (.tmp 8) (.tmp 12) (X 5) (X 9) lI lJ (t0.2.2.1 rfl rfl).1 (by rw [x9]; exact SS.src (SS.fr0 HJ.out t0.1)) (by have := HB.out; omega) ?g0 ?g1 ?g2 ?g3 ?g4 ?g6
   case g0 => rfl
   case g1 => rfl
   case g2 => rfl
   case g3 => rfl
   case g4 => rfl
   intro b n c w2 hn happ
   refine hK.out (.slice b n c) w2 trivial ⟨?_, fun h => absurd (show D 11 = true from h) (by rw [d11]; decide)⟩ trivial
   show KS _ _ _ (D 0) (D 5) true _ _ _ _
   rw [d0, d5]
   exact KS.two t0 happ
  ·skip
   intro D X w' K hD hcl hS hA hI hK
   have d10 := hA { on := 10, ground := .data } (by simp) rfl
   simp only [putL, pE0, pE1, pE4, pE5, pE6, Nat.reduceAdd, up, Nat.reduceEqDiff, if_true, if_false, reduceIte] at hK ⊢
   go_simp
   exact hK.out _ _ trivial ⟨hS.1, fun _ => rfl⟩ trivial
 case hfin =>
  intro D X wa hS hD hI
  simp only [putL, pE0, pE1, pE4, pE5, pE6, Nat.reduceAdd]
  have h11 := hS.2 (hD 11 (by decide))
  have h10 := hS.1.out
  rw [hD 10 (by decide)] at h10
  have g := h10.2.2.2 rfl
  have HF := Lib.hid (And.intro g h10.1)
  rw [h11]
  obtain ⟨a, c, hv⟩ := g.1.form
  obtain ⟨N, hN⟩ : ∃ N, (lI ++ lJ).length = N := ⟨_, rfl⟩
  rw [hN] at hv
  rw [hv] at HF ⊢
  clear hD hI hS h10 g h11 hN
  go_wp2
  go_ret
  exact ⟨_, rfl, HF.out.1, HF.out.2⟩
set_option maxHeartbeats 1000000 in
set_option maxRecDepth 100000 in
theorem r11keysK {w : World} {e : Nat} {F : List Nat} {K : Rows} {c : Nat} (h : RTwo w e F K c) (hb : ∀ i, (K i).length ≤ 4000) : Calls Tryz.prog 131 #[ptr e] w (KeysRet w (K 0 ++ K 2)) := by
 obtain ⟨V, h⟩ := h
 obtain ⟨a0, n0, c0, a1, n1, c1, a2, n2, c2, a3, n3, c3, hn0, hn1, hn2, hn3, h⟩ := h.lit (by decide)
 have kI := h.k (i := 0) (by decide)
 have kJ := h.k (i := 2) (by decide)
 have HI : Hid (SS w (.slice a0 n0 c0) (K 0)) := h.s 0 (by decide)
 have HJ : Hid (SS w (.slice a2 n2 c2) (K 2)) := h.s 2 (by decide)
 have HB : Hid ((K 0).length ≤ 4000 ∧ (K 2).length ≤ 4000) := ⟨hb 0, hb 2⟩
 simp only [V4] at kI kJ
 generalize K 0 = lI at *
 generalize K 2 = lJ at *
 clear h hb hn0 hn1 hn2 hn3
 go_enter Tryz.func131, Tryz.ntmps131
 go_wp2_with fail
 refine wp_region_invX (fun j v _ => match j with | 1 | 2 | 6 | 7 => v = ptr e | 3 => v = .pointer (some ⟨e, 0, none⟩) | 8 => v = .pointer (some ⟨e, 2, none⟩) | 4 => v = .slice a0 n0 c0 | 9 => v = .slice a2 n2 c2 | _ => True)
  (fun D X wz => Hid (KS w lI lJ (D 0) (D 5) (D 10) (X 0) (X 5) (X 10) wz) ∧ (D 11 = true → X 11 = X 10)) (fun _ _ => True) (by kernel_rfl) (by kernel_rfl) (by kernel_rfl) (fun _ _ _ _ h _ => h) ?hS ?hops ?hfin
 case hS => exact fun X => ⟨KS.start ((Fr.refl [] _).drew) _ _ _, fun h => by (cases h)⟩
 case hops =>
  repeat' (first | exact OpsOkX.nil | refine OpsOkX.cons ?_ ?_)
  all_goals try exact rgTX
  ·skip
   intro D X w' K hD hcl hS hA hI hK
   have d5 := hcl.not hD 5 (by kernel_rfl)
   have d10 := hcl.not d5 10 (by kernel_rfl)
   have d11 := hcl.not d10 11 (by kernel_rfl)
   have t0 := hS.1.out
   have hD : D 0 = false := hD
   rw [hD, d5, d10] at t0
   have t1 := Lib.hid (KS.zero t0)
   clear t0
   simp only [putL, pE0, pE1, pE4, pE5, pE6, Nat.reduceAdd, up, Nat.reduceEqDiff, if_true, if_false, reduceIte] at hK ⊢
   go_simp
   refine hK.out _ _ trivial ⟨?_, fun h => absurd (show D 11 = true from h) (by rw [d11]; decide)⟩ trivial
   show KS _ _ _ true (D 5) (D 10) _ _ _ _
   rw [d5, d10]
   exact t1.out
  ·skip
   intro D X w' K hD hcl hS hA hI hK
   have kk := cell_fr hS.1.out.1 kI (by simp)
   simp only [afterI, Region.binds, forall_const] at hI
   simp only [putL, pE0, pE1, pE4, pE5, pE6, Nat.reduceAdd, up, Nat.reduceEqDiff, if_true, if_false, reduceIte] at hK ⊢
   try simp only [hI] at hK
   go_simp
   exact hK.out _ _ rfl hS trivial
  ·skip
   intro D X w' K hD hcl hS hA hI hK
   have hD : D 5 = false := hD
   have d0 : D 0 = true := hA { on := 0, ground := .data } (by simp) rfl
   have d10 := hcl.not hD 10 (by kernel_rfl)
   have d11 := hcl.not d10 11 (by kernel_rfl)
   have t0 := hS.1.out
   rw [hD, d0, d10] at t0
   have x4 : X 4 = .slice a0 n0 c0 := by simp only [afterI, Region.binds, forall_const] at hI; exact hI.2.1
   simp only [putL, pE0, pE1, pE4, pE5, pE6, Nat.reduceAdd, up, Nat.reduceEqDiff, if_true, if_false, reduceIte] at hK ⊢
   refine app_stepY (.tmp 3) (.tmp 7) (X 0) (X 4) [] lI (t0.2.1 rfl rfl).1 (by rw [x4]; exact SS.src (SS.fr0 HI.out t0.1)) (by have := HB.out.1; simp; omega) ?h0 ?h1 ?h2 ?h3 ?h4 ?h6
   case h0 => rfl
   case h1 => rfl
   case h2 => rfl
   case h3 => rfl
   case h4 => rfl
   intro b n c w2 hn happ
   refine hK.out (.slice b n c) w2 trivial ⟨?_, fun h => absurd (show D 11 = true from h) (by rw [d11]; decide)⟩ trivial
   show KS _ _ _ (D 0) true (D 10) _ _ _ _
   rw [d0, d10]
   exact KS.one t0 happ
  ·skip
   intro D X w' K hD hcl hS hA hI hK
   have kk := cell_fr hS.1.out.1 kJ (by simp)
   simp only [afterI, Region.binds, forall_const] at hI
   simp only [putL, pE0, pE1, pE4, pE5, pE6, Nat.reduceAdd, up, Nat.reduceEqDiff, if_true, if_false, reduceIte] at hK ⊢
   try simp only [hI] at hK
   go_simp
   exact hK.out _ _ rfl hS trivial
  ·skip
   intro D X w' K hD hcl hS hA hI hK
   have hD : D 10 = false := hD
   have d5 : D 5 = true := hA { on := 5, ground := .data } (by simp) rfl
   have d0 : D 0 = true := hcl 5 _ rfl d5 { on := 0, ground := .data } (by simp) rfl
   have d11 := hcl.not hD 11 (by kernel_rfl)
   have t0 := hS.1.out
   rw [hD, d0, d5] at t0
   have x9 : X 9 = .slice a2 n2 c2 := by simp only [afterI, Region.binds, forall_const] at hI; exact hI.2.1
   simp only [putL, pE0, pE1, pE4, pE5, pE6, Nat.reduceAdd, up, Nat.reduceEqDiff, if_true, if_false, reduceIte] at hK ⊢
   refine app_stepY (.tmp 8) (.tmp 12) (X 5) (X 9) lI lJ (t0.2.2.1 rfl rfl).1 (by rw [x9]; exact SS.src (SS.fr0 HJ.out t0.1)) (by have := HB.out; omega) ?g0 ?g1 ?g2 ?g3 ?g4 ?g6
   case g0 => rfl
   case g1 => rfl
   case g2 => rfl
   case g3 => rfl
   case g4 => rfl
   intro b n c w2 hn happ
   refine hK.out (.slice b n c) w2 trivial ⟨?_, fun h => absurd (show D 11 = true from h) (by rw [d11]; decide)⟩ trivial
   show KS _ _ _ (D 0) (D 5) true _ _ _ _
   rw [d0, d5]
   exact KS.two t0 happ
  ·skip
   intro D X w' K hD hcl hS hA hI hK
   have d10 := hA { on := 10, ground := .data } (by simp) rfl
   simp only [putL, pE0, pE1, pE4, pE5, pE6, Nat.reduceAdd, up, Nat.reduceEqDiff, if_true, if_false, reduceIte] at hK ⊢
   go_simp
   exact hK.out _ _ trivial ⟨hS.1, fun _ => rfl⟩ trivial
 case hfin =>
  intro D X wa hS hD hI
  simp only [putL, pE0, pE1, pE4, pE5, pE6, Nat.reduceAdd]
  have h11 := hS.2 (hD 11 (by decide))
  have h10 := hS.1.out
  rw [hD 10 (by decide)] at h10
  have g := h10.2.2.2 rfl
  have HF := Lib.hid (And.intro g h10.1)
  rw [h11]
  obtain ⟨a, c, hv⟩ := g.1.form
  obtain ⟨N, hN⟩ : ∃ N, (lI ++ lJ).length = N := ⟨_, rfl⟩
  rw [hN] at hv
  rw [hv] at HF ⊢
  clear hD hI hS h10 g h11 hN
  go_wp2
  go_ret
  exact ⟨_, rfl, HF.out.1, HF.out.2⟩
end Go.Proofs.YtfeicmpbfbhiiaaGreat
set_option linter.unusedVariables false
set_option linter.unusedSimpArgs false
namespace Go.Proofs.YtfeicmpbfbhiiaaGreat
open Go.RowKit
attribute [local go_sem ↓] Go.wp_at_zero Go.wp_at_succ
theorem take_key (l : List (ByteArray × Nat)) (j : Nat) (h : j < l.length) : (l.map (·.1)).take (j + 1) = (l.map (·.1)).take j ++ [l[j].1] := by
 rw [List.take_add_one, List.getElem?_map, List.getElem?_eq_getElem h]
 rfl
section
variable {w w' : World} {e c : Nat} {F G : List Nat} {X : Nat → RowD} {l0 l1 : List (ByteArray × Nat)}
set_option maxHeartbeats 1000000 in
set_option maxRecDepth 100000 in
theorem r12keys (h : R12 w e F X c) (h0 : X 0 = cellR12 l0) (h1 : X 1 = cellR12 l1) (hb0 : l0.length ≤ 4000) (hb1 : l1.length ≤ 4000) : Calls Tryz.prog 133 #[ptr e] w (KeysRet w (l0.map (·.1) ++ l1.map (·.1))) := by
 obtain ⟨V, h⟩ := h
 obtain ⟨a0, n0, c0, a1, n1, c1, a2, n2, c2, a3, n3, c3, hn0, hn1, hn2, hn3, h⟩ := h.lit (by decide)
 have k0 := h.k (i := 0) (by decide)
 have k1 := h.k (i := 1) (by decide)
 have HS0 : Hid (RowAt w (.slice a0 n0 c0) (cellR12 l0)) := h0 ▸ h.s 0 (by decide)
 have HS1 : Hid (RowAt w (.slice a1 n1 c1) (cellR12 l1)) := h1 ▸ h.s 1 (by decide)
 have HN0 : Hid (l0.length = n0) := by show _ = _; rw [← hn0, h0]
 have HN1 : Hid (l1.length = n1) := by show _ = _; rw [← hn1, h1]
 have b0 : n0 ≤ 4000 := by rw [← HN0.out]; exact hb0
 have b1 : n1 ≤ 4000 := by rw [← HN1.out]; exact hb1
 simp only [V4] at k0 k1
 have HRV := Lib.hid h
 have HB : Hid (n0 ≤ 4000 ∧ n1 ≤ 4000) := ⟨b0, b1⟩
 clear h hn0 hn1 hn2 hn3 h0 h1 hb0 hb1
 go_enter Tryz.func133, Tryz.ntmps133
 go_wp2
 go_loopw [3, 4] (fun u3 u4 wr => ∃ (j m : Nat) (b : Option Addr) (cc : Nat), j ≤ n0 ∧ u4 = .int .i64 j ∧ u3 = .slice b m cc ∧ Hid (Gone w wr (.slice b m cc) (([] : List ByteArray) ++ (l0.map (·.1)).take j)) ∧ Fr [] w wr) (fun _ u4 _ => n0 - (intOf u4).toNat)
 case atStart => exact ⟨0, 0, none, 0, Nat.zero_le _, rfl, rfl, Gone.nil _ _, Fr.refl _ _⟩
 case round =>
  obtain ⟨j, m, b, cc, hj, rfl, rfl, hG, hf⟩ := hrel
  have kk := (HRV.out.c0 hf 0).1.trans k0
  by_cases hlt : j < n0
  ·have hjl : j < l0.length := by rw [HN0.out]; exact hlt
   obtain ⟨g, o, rfl, x0, x1⟩ := cell12_at (Sl.fr HS0.out hf (fun _ _ => by simp)) hjl
   have hsn : ([] : List ByteArray) ++ (l0.map (·.1)).take (j + 1) = (([] : List ByteArray) ++ (l0.map (·.1)).take j) ++ [l0[j].1] := by rw [take_key l0 j hjl]; simp only [List.append_assoc]
   have htl : (([] : List ByteArray) ++ (l0.map (·.1)).take j).length = m := by
    obtain ⟨_, _, e9⟩ := hG.out.1.form
    simp only [Value.slice.injEq] at e9
    exact e9.2.1.symm
   have hml : m ≤ 20000 := by rw [← htl]; have := HB.out; have z0 := HN0.out; have z1 := HN1.out; simp only [List.length_append, List.length_take, List.length_map, List.length_nil]; omega
   obtain ⟨k, hk⟩ : ∃ k, l0[j].1 = k := ⟨_, rfl⟩
   obtain ⟨T, hT⟩ : ∃ T, ([] : List ByteArray) ++ (l0.map (·.1)).take j = T := ⟨_, rfl⟩
   rw [hk] at x0 hsn
   rw [hT] at hsn htl hG
   have HSN := Lib.hid hsn
   have HTL := Lib.hid htl
   have q1 : (j : Int) < (n0 : Int) := by omega
   clear hk x1 hsn hT htl
   go_wp2_with (at_builtin; refine app_list rfl _ _ rfl (.slice b m cc) (.slice (some ⟨wr.heap.size, 0, none⟩) 1 1) T [k] rfl rfl ?hsl0 ?src0 ?hb0 ?_)
   case hsl0 => exact (hG.out.fr0 ((Fr.refl [] _).alloc _)).1
   case src0 => exact SS.src (SS.one wr k)
   case hb0 => have := HTL.out; (try simp only [List.length_cons, List.length_nil]); omega
   intro b' n' c' w4 hn' happ
   obtain ⟨g1, g2⟩ := happ.new (hf.alloc _) hG.out.2
   have G1 : Hid (Gone w w4 (.slice b' n' c') (([] : List ByteArray) ++ (l0.map (·.1)).take (j + 1))) := by show Gone _ _ _ _; rw [HSN.out]; exact g1
   have hn2 : n' = m + 1 := by rw [hn', HTL.out]
   clear hn' g1 happ
   subst hn2
   go_wp2
   exact ⟨⟨j + 1, m + 1, b', c', by omega, by go_num, rfl, G1, g2⟩, by simp [intOf]; omega⟩
  ·have : n0 = j := by omega
   subst this
   have hg := hG.out
   have e9 : (l0.map (·.1)).take n0 = l0.map (·.1) := by rw [← HN0.out, ← List.length_map (f := (·.1))]; exact List.take_length
   rw [e9] at hg
   have HG9 := Lib.hid hg
   clear hg e9
   go_wp2_with fail
   go_loopw [3, 5] (fun u3 u5 wr => ∃ (j m : Nat) (b : Option Addr) (cc : Nat), j ≤ n1 ∧ u5 = .int .i64 j ∧ u3 = .slice b m cc ∧ Hid (Gone w wr (.slice b m cc) ((([] : List ByteArray) ++ l0.map (·.1)) ++ (l1.map (·.1)).take j)) ∧ Fr [] w wr) (fun _ u5 _ => n1 - (intOf u5).toNat)
   case atStart => exact ⟨0, _, _, _, Nat.zero_le _, rfl, rfl, by rw [List.take_zero, List.append_nil]; exact HG9.out, hf⟩
   case round =>
    obtain ⟨j, m, b, cc, hj, rfl, rfl, hG, hf⟩ := hrel
    have kk := (HRV.out.c0 hf 1).1.trans k1
    by_cases hlt : j < n1
    ·have hjl : j < l1.length := by rw [HN1.out]; exact hlt
     obtain ⟨g, o, rfl, x0, x1⟩ := cell12_at (Sl.fr HS1.out hf (fun _ _ => by simp)) hjl
     have hsn : (([] : List ByteArray) ++ l0.map (·.1)) ++ (l1.map (·.1)).take (j + 1) = ((([] : List ByteArray) ++ l0.map (·.1)) ++ (l1.map (·.1)).take j) ++ [l1[j].1] := by rw [take_key l1 j hjl]; simp only [List.append_assoc]
     have htl : ((([] : List ByteArray) ++ l0.map (·.1)) ++ (l1.map (·.1)).take j).length = m := by
      obtain ⟨_, _, e9⟩ := hG.out.1.form
      simp only [Value.slice.injEq] at e9
      exact e9.2.1.symm
     have hml : m ≤ 20000 := by rw [← htl]; have := HB.out; have z0 := HN0.out; have z1 := HN1.out; simp only [List.length_append, List.length_take, List.length_map, List.length_nil]; omega
     obtain ⟨k, hk⟩ : ∃ k, l1[j].1 = k := ⟨_, rfl⟩
     obtain ⟨T, hT⟩ : ∃ T, (([] : List ByteArray) ++ l0.map (·.1)) ++ (l1.map (·.1)).take j = T := ⟨_, rfl⟩
     rw [hk] at x0 hsn
     rw [hT] at hsn htl hG
     have HSN := Lib.hid hsn
     have HTL := Lib.hid htl
     have q1 : (j : Int) < (n1 : Int) := by omega
     clear hk x1 hsn hT htl
     go_wp2_with (at_builtin; refine app_list rfl _ _ rfl (.slice b m cc) (.slice (some ⟨wr.heap.size, 0, none⟩) 1 1) T [k] rfl rfl ?hsl1 ?src1 ?hb1 ?_)
     case hsl1 => exact (hG.out.fr0 ((Fr.refl [] _).alloc _)).1
     case src1 => exact SS.src (SS.one wr k)
     case hb1 => have := HTL.out; (try simp only [List.length_cons, List.length_nil]); omega
     intro b' n' c' w4 hn' happ
     obtain ⟨g1, g2⟩ := happ.new (hf.alloc _) hG.out.2
     have G1 : Hid (Gone w w4 (.slice b' n' c') ((([] : List ByteArray) ++ l0.map (·.1)) ++ (l1.map (·.1)).take (j + 1))) := by show Gone _ _ _ _; rw [HSN.out]; exact g1
     have hn2 : n' = m + 1 := by rw [hn', HTL.out]
     clear hn' g1 happ
     subst hn2
     go_wp2
     exact ⟨⟨j + 1, m + 1, b', c', by omega, by go_num, rfl, G1, g2⟩, by simp [intOf]; omega⟩
    ·have : n1 = j := by omega
     subst this
     have hg := hG.out
     have e9 : (l1.map (·.1)).take n1 = l1.map (·.1) := by rw [← HN1.out, ← List.length_map (f := (·.1))]; exact List.take_length
     rw [e9] at hg
     have HG9 := Lib.hid hg
     clear hg e9
     go_wp2
     go_ret
     refine ⟨_, rfl, ?_, hf⟩
     have := HG9.out
     rw [List.nil_append] at this
     exact this
end
def hotB (B : Stk) : List ByteArray := (B.filter fun e => decide (e.2 = 104)).map (·.1)
theorem hotB_snoc (B : Stk) (j : Nat) (h : j < B.length) : hotB (B.take (j + 1)) = hotB (B.take j) ++ (if B[j].2 = 104 then [B[j].1] else []) := by
 unfold hotB
 rw [List.take_add_one, List.getElem?_eq_getElem h, List.filter_append, List.map_append]
 by_cases e : B[j].2 = 104 <;> simp [e]
section
variable {w w' : World} {e c : Nat} {F G : List Nat} {B : Stk} {q : List ByteArray}
set_option maxHeartbeats 1000000 in
set_option maxRecDepth 100000 in
theorem r13keys (h : R13 w e F B q c) (hl : B.length ≤ 4000) (hl2 : q.length ≤ 4000) : Calls Tryz.prog 130 #[ptr e] w (KeysRet w (q ++ hotB B)) := by
 obtain ⟨a0, n0, c0, a1, n1, c1, H, hn0, hn1, k0, k1, k2, s0, s1⟩ := h.open
 have HS0 := Lib.hid s0
 have HS1 := Lib.hid s1
 have HN := Lib.hid hn0
 have HQ := Lib.hid hl2
 have K0 := Lib.hid k0
 rw [hn0] at hl
 have zl : e < w.heap.size := by obtain ⟨V, hv, _⟩ := H.out; exact lt_of_block hv.b.blk
 have zn : ¬ e = w.heap.size := by omega
 clear h hn0 hn1 s0 s1 k2 hl2
 go_enter Tryz.func130, Tryz.ntmps130
 go_wp2_with (at_builtin; refine app_list rfl _ _ rfl (.slice (some ⟨w.heap.size, 0, none⟩) 0 0) (.slice a1 n1 c1) [] q rfl rfl ?hsl ?src ?hb ?_)
 case hsl => exact SS.empty _
 case src => exact SS.src (SS.fr0 HS1.out ((Fr.refl [] _).alloc _))
 case hb => have := HQ.out; simp; omega
 intro b5 n5 c5 w5 hn5 ha5
 obtain ⟨g5, f5⟩ := ha5.new ((Fr.refl [] w).alloc _) (by intro z hz; simp [Value.ownBlock] at hz; omega)
 have G5 : Hid (Gone w w5 (.slice b5 n5 c5) q) := g5
 clear ha5 g5 hn5 k0 k1 zl zn
 go_wp2
 go_loopw [3, 4] (fun u3 u4 wr => ∃ (j m : Nat) (b : Option Addr) (cc : Nat), j ≤ n0 ∧ u4 = .int .i64 j ∧ u3 = .slice b m cc ∧ Hid (Gone w wr (.slice b m cc) (q ++ hotB (B.take j))) ∧ Fr [] w wr) (fun _ u4 _ => n0 - (intOf u4).toNat)
 case atStart => exact ⟨0, _, _, _, Nat.zero_le _, rfl, rfl, by rw [List.take_zero]; show Gone _ _ _ (q ++ []); rw [List.append_nil]; exact G5.out, f5⟩
 case round =>
  obtain ⟨j, m, b, cc, hj, rfl, rfl, hG, hf⟩ := hrel
  have kk : wr.cell? ⟨e, 0, none⟩ = some (.slice a0 n0 c0) := cell_fr hf K0.out (by simp)
  by_cases hlt : j < n0
  ·have hjl : j < B.length := by rw [HN.out]; exact hlt
   obtain ⟨g, o, rfl, x0, x1⟩ := cell13_at (Sl.fr HS0.out hf (fun _ _ => by simp)) hjl
   have hsn := hotB_snoc B j hjl
   have htl : (q ++ hotB (B.take j)).length = m := by
    obtain ⟨_, _, e9⟩ := hG.out.1.form
    simp only [Value.slice.injEq] at e9
    exact e9.2.1.symm
   have hml : m ≤ 20000 := by
    rw [← htl, List.length_append]
    have := HQ.out
    have z1 : (hotB (B.take j)).length ≤ j := by unfold hotB; rw [List.length_map]; exact Nat.le_trans (List.length_filter_le _ _) (by rw [List.length_take]; omega)
    omega
   obtain ⟨⟨k, is⟩, hk⟩ : ∃ k, B[j] = k := ⟨_, rfl⟩
   rw [hk] at x0 x1 hsn
   simp only at x0 x1 hsn
   obtain ⟨T, hT⟩ : ∃ T, q ++ hotB (B.take j) = T := ⟨_, rfl⟩
   have q1 : (j : Int) < (n0 : Int) := by omega
   by_cases eq : is = 104
   ·have HSN : Hid (q ++ hotB (B.take (j + 1)) = T ++ [k]) := by show _ = _; rw [hsn, if_pos eq, ← List.append_assoc, hT]
    subst eq
    rw [hT] at htl hG
    have HTL := Lib.hid htl
    clear hk hsn hT htl
    go_wp2_with (at_builtin; refine app_list rfl _ _ rfl (.slice b m cc) (.slice (some ⟨wr.heap.size, 0, none⟩) 1 1) T [k] rfl rfl ?hsl2 ?src2 ?hb2 ?_)
    case hsl2 => exact (hG.out.fr0 ((Fr.refl [] _).alloc _)).1
    case src2 => exact SS.src (SS.one wr k)
    case hb2 => have := HTL.out; (try simp only [List.length_cons, List.length_nil]); omega
    intro b' n' c' w4 hn' happ
    obtain ⟨g1, g2⟩ := happ.new (hf.alloc _) hG.out.2
    have G1 : Hid (Gone w w4 (.slice b' n' c') (q ++ hotB (B.take (j + 1)))) := by show Gone _ _ _ _; rw [HSN.out]; exact g1
    have hn2 : n' = m + 1 := by rw [hn', HTL.out]
    clear hn' g1 happ
    subst hn2
    go_wp2
    exact ⟨⟨j + 1, m + 1, b', c', by omega, by go_num, rfl, G1, g2⟩, by simp [intOf]; omega⟩
   ·have b9 : ((is : Int) == 104) = false := by rw [beq_eq_false_iff_ne]; omega
    have HSN : Hid (q ++ hotB (B.take (j + 1)) = q ++ hotB (B.take j)) := by show _ = _; rw [hsn, if_neg eq, List.append_nil]
    clear hk hsn hT htl eq
    go_wp2
    exact ⟨⟨j + 1, m, b, cc, by omega, by go_num, rfl, by show Gone _ _ _ _; rw [HSN.out]; exact hG.out, hf⟩, by simp [intOf]; omega⟩
  ·have : n0 = j := by omega
   subst this
   have hg := hG.out
   have e9 : B.take n0 = B := by rw [← HN.out]; exact List.take_length
   rw [e9] at hg
   have HG9 := Lib.hid hg
   clear hg e9
   go_wp2
   go_ret
   exact ⟨_, rfl, HG9.out, hf⟩
end
end Go.Proofs.YtfeicmpbfbhiiaaGreat
