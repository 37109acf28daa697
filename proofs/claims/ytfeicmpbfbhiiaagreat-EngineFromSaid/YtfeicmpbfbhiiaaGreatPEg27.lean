/- Texts of a proof about the given program, those parts that this claim reaches. -/
import Derived.Test.YtfeicmpbfbhiiaaGreatPEg24
set_option linter.unusedVariables false
set_option linter.unusedSimpArgs false
namespace Go.Proofs.YtfeicmpbfbhiiaaGreat
open Go.RowKit
open Act renaming put → pE0
open List renaming getElem_toArray → pE1, getElem_cons_succ → pE2, getElem_cons_zero → pE3, setIfInBounds_toArray → pE4, set_cons_zero → pE5, set_cons_succ → pE6
attribute [local go_sem ↓] Go.wp_at_zero Go.wp_at_succ
/-- An engine's first cells, in a world behind wr in which nothing has turned. -/
abbrev ECs (N e g cap x o c : Nat) (wr w' : World) : Prop := (w'.cell? ⟨e, 0, none⟩ = some (.slice (some ⟨g, 0, none⟩) N cap) ∧ w'.cell? ⟨e, 1, none⟩ = some (ptr x) ∧ w'.cell? ⟨e, o, none⟩ = some (.int .i64 (c : Nat))) ∧ Hid (Fr [] wr w')
theorem ECs.fr {N e g cap x o c : Nat} {wr a b : World} (h : ECs N e g cap x o c wr a) (f : Fr [] a b) : ECs N e g cap x o c wr b :=
 ⟨⟨cell_fr f h.1.1 (by simp), cell_fr f h.1.2.1 (by simp), cell_fr f h.1.2.2 (by simp)⟩, h.2.out.same f⟩
section
variable {w wr : World} {e g cap x : Nat} {F : List Nat} {K : Rows} {c p : Nat}
/-- The oldest of a row is dropped. -/
def ADrop (wr : World) (e g cap x : Nat) (F : List Nat) (K : Rows) (c p : Nat) (o : ByteArray) (w' : World) : Prop := EGo IRepA 4 189 wr e g cap x F (dropK K o) [.int .i64 (c : Nat), .int .i64 (p : Nat)] w'
theorem aoldR (H : ERows IRepA 4 189 wr e g cap x F K [.int .i64 (c : Nat), .int .i64 (p : Nat)]) {r : Nat} (hr : r < 4) {o : ByteArray} (ho : oldest K r = o) : Hid (∀ W, Fr [] wr W → Calls Tryz.prog 300 #[.agg #[.slice (some ⟨g, 0, none⟩) 4 cap, ptr x], .int .i64 r] W fun en w' => en = .returned (.string o) ∧ Fr [] W w') := fun W f => ho ▸ eoldestA (H.fr0 irokA f) hr
theorem adropR (H : ERows IRepA 4 189 wr e g cap x F K [.int .i64 (c : Nat), .int .i64 (p : Nat)]) (ht : tot 4 K ≤ 80000) (o : ByteArray) (hz : o.size ≤ maxLen) : Hid (∀ W, Fr [] wr W → Calls Tryz.prog 299 #[.agg #[.slice (some ⟨g, 0, none⟩) 4 cap, ptr x], .string o] W fun en w' => en = .returned (.tuple #[]) ∧ ADrop wr e g cap x F K c p o w' ∧ w'.cell? ⟨e, 0, none⟩ = some (.slice (some ⟨g, 0, none⟩) 4 cap) ∧ w'.cell? ⟨e, 1, none⟩ = some (ptr x)) := fun W f => by
 refine (edropA (H.fr0 irokA f) ht o hz).mono ?_
 rintro en w' ⟨rfl, F2, h2, hs, hf⟩
 exact ⟨rfl, ⟨F2, h2, hs.old f.size, f.nil.same hf⟩, h2.k0, h2.k1⟩
theorem amanyR (H : ERows IRepA 4 189 wr e g cap x F K [.int .i64 (c : Nat), .int .i64 (p : Nat)]) (is : List Nat) (his : ∀ i, i ∈ is → i < 4) (hl : is.length ≤ 100) {s : Nat} (hs : (is.map fun i => (K i).length).sum = s) : Hid (∀ W vs, Fr [] wr W → Rd W 1 vs is.length (is.map fun i => Value.int .i64 (i : Nat)) → Calls Tryz.prog 294 #[.agg #[.slice (some ⟨g, 0, none⟩) 4 cap, ptr x], vs] W fun en w' => en = .returned (.int .i64 (s : Nat)) ∧ Fr [] W w') := fun W vs f hv => hs ▸ emanyA (H.fr0 irokA f) is hv his hl
set_option maxHeartbeats 4000000 in
set_option maxRecDepth 100000 in
theorem aloadGo (H : ERows IRepA 4 189 w e g cap x F K [.int .i64 (c : Nat), .int .i64 (p : Nat)]) (hn : RNd 4 K) (hc : c ≤ 1024) (hl : tot 4 K ≤ 4000) (key : ByteArray) (hz : key.size ≤ maxLen) {n : Nat} (hlen : (K 0).length + (K 1).length = n) (hb : ((n : Int) == (c : Int)) = false) (hlt0 : (K 0).length + (K 1).length < c)
  (HH : Hid (∀ W, Fr [] w W → Calls Tryz.prog 285 #[ptr e, .string key] W fun en w' => en = .returned (.bool false) ∧ Fr [] W w')) (HL : Hid (∀ W, Fr [] w W → Calls Tryz.prog 287 #[ptr e] W fun en w' => en = .returned (.int .i64 (n : Nat)) ∧ Fr [] W w')) :
  Calls Tryz.prog 288 #[ptr e, .string key] w fun en w' => en = .returned (.bool true) ∧ EGo IRepA 4 189 w e g cap x F (arcTrim3 c (arcTrim2 c (pushK K 0 key))) [.int .i64 (c : Nat), .int .i64 (p : Nat)] w' := by
 have kc := H.kr0
 have HE := Lib.hid H
 have HN := Lib.hid hn
 have HT0 := Lib.hid hlt0
 obtain ⟨KT, hKT⟩ : ∃ K', arcTrim3 c (arcTrim2 c (pushK K 0 key)) = K' := ⟨_, rfl⟩
 rw [hKT]
 have HKT := Lib.hid hKT
 clear H hn hlen hlt0 hKT
 go_enter Tryz.func288, Tryz.ntmps288
 go_wp2_with fail
 refine wp_region_inv (fun j v _ => match j with | 0 | 3 | 8 | 10 | 11 => v = ptr e | 1 | 2 | 5 | 6 | 7 => v = .bool false | 4 => v = .string key | 9 => v = .int .i64 (n : Nat) | 12 => v = .pointer (some ⟨e, 2, none⟩) | 13 => v = .int .i64 (c : Nat) | 14 | 15 => v = .bool false | _ => True) (fun _ w' => w'.cell? ⟨e, 2, none⟩ = some (.int .i64 (c : Nat)) ∧ Hid (Fr [] w w')) (fun _ _ => True) (by kernel_rfl) (by kernel_rfl) (by kernel_rfl) (fun _ _ _ _ h _ => h) ⟨kc, (Fr.refl [] _).drew⟩ ?hops ?hfin
 case hops =>
  repeat' (first | exact OpsOk.nil | refine OpsOk.cons ?_ ?_)
  all_goals try exact rgT
  ·skip
   intro D X w' K hD hcl hS hI hK
   simp only [afterI, Region.binds, forall_const] at hI
   simp only [putL, pE0, pE1, pE4, pE5, pE6, Nat.reduceAdd, up, Nat.reduceEqDiff, if_true, if_false, reduceIte] at hK ⊢
   try simp only [hI] at hK
   go_simp
   refine (HH.out _ hS.2.out).mono ?_
   rintro en w3 ⟨rfl, f3⟩
   exact hK.out _ _ rfl ⟨cell_fr f3 hS.1 (by simp), hS.2.out.same f3⟩ trivial
  ·skip
   intro D X w' K hD hcl hS hI hK
   simp only [afterI, Region.binds, forall_const] at hI
   simp only [putL, pE0, pE1, pE4, pE5, pE6, Nat.reduceAdd, up, Nat.reduceEqDiff, if_true, if_false, reduceIte] at hK ⊢
   try simp only [hI] at hK
   go_simp
   refine (HL.out _ hS.2.out).mono ?_
   rintro en w3 ⟨rfl, f3⟩
   exact hK.out _ _ rfl ⟨cell_fr f3 hS.1 (by simp), hS.2.out.same f3⟩ trivial
 case hfin =>
  intro D X w' hS hD hI
  simp only [putL, pE0, pE1, pE4, pE5, pE6, Nat.reduceAdd]
  have h15 : X 15 = .bool false := hI 15 (by decide)
  rw [h15]
  have HFW := hS.2
  clear h15 hS hD hI kc hb HL HH
  have H0 := HE.out.fr0 irokA HFW.out
  have k0 := H0.k0
  have k1 := H0.k1
  go_wp2_with fail
  refine (epushA H0 (by omega) (r := 0) (by decide) key hz).mono ?_
  rintro en w1 ⟨rfl, F1, H1, hs1, hg1⟩
  replace hs1 := hs1.old HFW.out.size
  replace hg1 := HFW.out.nil.same hg1
  have htp := tot_push (K := K) (k := 4) (r := 0) (by decide) key
  have hp0 : (pushK K 0 key 0).length ≤ c := by
   have a := push_len K 0 0 key
   have b := drop_len_le K key 0
   have d := HT0.out
   simp at a; omega
  obtain ⟨K1, hK1⟩ : ∃ K1, pushK K 0 key = K1 := ⟨_, rfl⟩
  rw [hK1] at H1 htp hp0
  have HP1 : Hid ((K1 0).length + (K1 1).length ≤ c) := by
   show _ ≤ _
   have a := push_len K 0 0 key
   have a1 := push_len K 0 1 key
   have b := drop_len_le K key 0
   have b1 := drop_len_le K key 1
   have d := HT0.out
   rw [← hK1]
   simp at a a1; omega
  have HK1 := Lib.hid hK1
  obtain ⟨mm, hmm⟩ : ∃ m, (K1 0).length = m := ⟨_, rfl⟩
  rw [hmm] at hp0
  obtain ⟨nn, hnn⟩ : ∃ n, c - mm = n := ⟨_, rfl⟩
  have HMM : Hid ((K1 0).length = mm) := hmm
  have HNN := Lib.hid hnn
  have hnn2 : nn + mm = c := by omega
  clear H0 k0 k1 hK1 hmm hnn
  go_wp2_with fail
  go_loopg [] (K1 2).length (fun gg wr => ∃ (Kc : Rows) (Fc : List Nat), Aside (trim Kc 2 nn = trim K1 2 nn ∧ (Kc 2).length = gg ∧ ∀ i, i ≠ 2 → Kc i = K1 i) ∧ tot 4 Kc ≤ 70001 ∧ ERows IRepA 4 189 wr e g cap x Fc Kc [.int .i64 (c : Nat), .int .i64 (p : Nat)] ∧ Sub Fc F w ∧ Fr F w wr)
  case atStart => exact ⟨K1, F1, ⟨rfl, rfl, fun _ _ => rfl⟩, by omega, H1, hs1, hg1⟩
  case round =>
   obtain ⟨Kc, Fc, hA, htc, H, hsc, hgc⟩ := hrel
   obtain ⟨n1, hn1⟩ : ∃ n, (Kc 2).length = n := ⟨_, rfl⟩
   obtain ⟨s, hs⟩ : ∃ s, (([0, 2] : List Nat).map fun i => (Kc i).length).sum = s := ⟨_, rfl⟩
   have hsn : s = n1 + mm := by
    have e := hA.out.2.2
    rw [← hs, ← HMM.out, ← hn1]
    simp [e]
    omega
   have k0 := H.k0
   have k1 := H.k1
   have k2 := H.kr0
   have HM := amanyR H [0, 2] (by decide) (by decide) hs
   have HN1 := Lib.hid hn1
   have HHH := Lib.hid H
   have hlb : n1 ≤ 70001 := by rw [← hn1]; exact Nat.le_trans (len_tot (by omega)) htc
   clear hs hn1 H
   by_cases hlt : nn < n1
   ·have q1 : (c : Int) < (s : Int) := by omega
    have q2 : c < s := by omega
    clear hsn
    go_wp2_with fail
    refine wp_region_inv (fun j v wz => match j with | 0 | 1 | 2 | 6 | 7 => v = ptr e | 3 => v = .agg #[.slice (some ⟨g, 0, none⟩) 4 cap, ptr x] | 4 => Rd wz 1 v 2 ([0, 2].map fun i => Value.int .i64 (i : Nat)) | 5 => v = .int .i64 (s : Nat) | 8 => v = .pointer (some ⟨e, 2, none⟩) | 9 => v = .int .i64 (c : Nat) | 10 => v = .bool true | _ => True) (fun _ wz => ECs 4 e g cap x 2 c wr wz) (fun a b => Fr [] a b) (by kernel_rfl) (by kernel_rfl) (by kernel_rfl) ?hst ⟨⟨k0, k1, k2⟩, (Fr.refl [] _).drew⟩ ?hops ?hfin
    case hst =>
     intro j v a b h f
     split at h <;> first | exact h | exact Rd.fr h f (fun _ h => by cases h)
    case hops =>
     repeat' (first | exact OpsOk.nil | refine OpsOk.cons ?_ ?_)
     all_goals try exact rgT
     ·skip
      intro D X w' K hD hcl hS hI hK
      simp only [afterI, Region.binds, forall_const] at hI
      simp only [putL, pE0, pE1, pE4, pE5, pE6, Nat.reduceAdd, up, Nat.reduceEqDiff, if_true, if_false, reduceIte] at hK ⊢
      try simp only [hI] at hK
      go_simp
      exact hK.out _ _ (Rd.lit2 0 2) (hS.fr ((Fr.refl [] _).alloc _)) ((Fr.refl [] _).alloc _)
     ·skip
      intro D X w' K hD hcl hS hI hK
      simp only [afterI, Region.binds, forall_const] at hI
      simp only [putL, pE0, pE1, pE4, pE5, pE6, Nat.reduceAdd, up, Nat.reduceEqDiff, if_true, if_false, reduceIte] at hK ⊢
      try simp only [hI] at hK
      go_simp
      refine (HM.out _ _ hS.2.out hI.2.1).mono ?_
      rintro en w3 ⟨rfl, f3⟩
      exact hK.out _ _ rfl (hS.fr f3) f3
    case hfin =>
     intro D X wa hS hD hI
     simp only [putL, pE0, pE1, pE4, pE5, pE6, Nat.reduceAdd]
     have hb : X 10 = .bool true := hI 10 (by decide)
     rw [hb]
     have HFW := hS.2
     have k0 := hS.1.1
     have k1 := hS.1.2.1
     clear hb hS hD hI HM
     obtain ⟨o, ho⟩ : ∃ o, oldest Kc 2 = o := ⟨_, rfl⟩
     have H2 := HHH.out.fr0 irokA HFW.out
     have HO := aoldR H2 (by decide) ho
     have HD := adropR H2 (by omega) o (by rw [← ho]; exact oldest_sz HHH.out.nd _)
     have HOO := Lib.hid ho
     clear H2 ho k2
     go_wp2_with fail
     refine wp_region_inv (fun j v wz => match j with | 0 | 1 | 2 | 4 | 5 | 6 => v = ptr e | 3 | 7 => v = .agg #[.slice (some ⟨g, 0, none⟩) 4 cap, ptr x] | 8 => v = .string o | _ => True) (fun D wz => (wz.cell? ⟨e, 0, none⟩ = some (.slice (some ⟨g, 0, none⟩) 4 cap) ∧ wz.cell? ⟨e, 1, none⟩ = some (ptr x)) ∧ Hid (if D 9 = true then ADrop wa e g cap x Fc Kc c p o wz else Fr [] wa wz)) (fun _ _ => True) (by kernel_rfl) (by kernel_rfl) (by kernel_rfl) (fun _ _ _ _ h _ => h) ⟨⟨k0, k1⟩, (Fr.refl [] _).drew⟩ ?hops ?hfin
     case hops =>
      repeat' (first | exact OpsOk.nil | refine OpsOk.cons ?_ ?_)
      all_goals try exact rgT
      ·skip
       intro D X w' K hD hcl hS hI hK
       simp only [afterI, Region.binds, forall_const] at hI
       simp only [putL, pE0, pE1, pE4, pE5, pE6, Nat.reduceAdd, up, Nat.reduceEqDiff, if_true, if_false, reduceIte] at hK ⊢
       try simp only [hI] at hK
       have h9 := hcl.not hD 9 (by kernel_rfl)
       have hz := hS.2.out
       rw [h9] at hz
       go_simp
       refine (HO.out _ hz).mono ?_
       rintro en w3 ⟨rfl, f3⟩
       refine hK.out _ _ rfl ⟨⟨cell_fr f3 hS.1.1 (by simp), cell_fr f3 hS.1.2 (by simp)⟩, ?_⟩ trivial
       show if D 9 = true then _ else _
       rw [h9]
       exact Fr.same hz f3
      ·skip
       intro D X w' K hD hcl hS hI hK
       simp only [afterI, Region.binds, forall_const] at hI
       simp only [putL, pE0, pE1, pE4, pE5, pE6, Nat.reduceAdd, up, Nat.reduceEqDiff, if_true, if_false, reduceIte] at hK ⊢
       try simp only [hI] at hK
       have hz := hS.2.out
       rw [hD] at hz
       go_simp
       refine (HD.out _ hz).mono ?_
       rintro en w3 ⟨rfl, hgo, l0, l1⟩
       exact hK.out _ _ trivial ⟨⟨l0, l1⟩, hgo⟩ trivial
     case hfin =>
      intro D X wb hS hD hI
      simp only [putL, pE0, pE1, pE4, pE5, pE6, Nat.reduceAdd]
      have hz : ADrop wa e g cap x Fc Kc c p o wb := by have := hS.2.out; rw [hD 9 (by decide)] at this; exact this
      clear hS hD hI
      obtain ⟨F2, H2, hs2, hg2⟩ := hz
      rw [← HOO.out] at H2
      have hnd := HHH.out.nd
      have hst := trim_step hnd (r := 2) (n := nn) (by rw [HN1.out]; exact hlt)
      have hdl := drop_len_in hnd (oldest_mem (K := Kc) (r := 2) (by rw [HN1.out]; omega))
      have hdt := tot_drop 4 Kc (oldest Kc 2)
      obtain ⟨e1, e2, e3⟩ := hA.out
      have hd1 := hdl 2
      simp only [if_true] at hd1
      have FIN : Hid (∀ i, i ≠ 2 → dropK Kc (oldest Kc 2) i = K1 i) := fun i hi => by
       rw [← e3 i hi, dropK_one hnd (oldest_mem (K := Kc) (r := 2) (by rw [HN1.out]; omega)), up_other _ _ _ _ hi]
      have FI2 := Lib.hid (hsc.fr hgc (hs2.old HFW.out.size))
      have FI3 := hgc.via hsc (HFW.out.nil.same hg2)
      clear k0 k1 hdl
      go_wp2_with fail
      go_roundg ((dropK Kc (oldest Kc 2)) 2).length
      case measure => omega
      case rel => exact ⟨_, F2, ⟨hst.trans e1, rfl, FIN.out⟩, by omega, H2, FI2.out, FI3⟩
   ·have q1 : (s : Int) ≤ (c : Int) := by omega
    have q2 : decide (c < s) = false := decide_eq_false (by omega)
    have q3 : s ≤ c := by omega
    have q4 : decide ((c : Int) < (s : Int)) = false := decide_eq_false (by omega)
    clear hsn
    go_wp2_with fail
    refine wp_region_inv (fun j v wz => match j with | 0 | 1 | 2 | 6 | 7 => v = ptr e | 3 => v = .agg #[.slice (some ⟨g, 0, none⟩) 4 cap, ptr x] | 4 => Rd wz 1 v 2 ([0, 2].map fun i => Value.int .i64 (i : Nat)) | 5 => v = .int .i64 (s : Nat) | 8 => v = .pointer (some ⟨e, 2, none⟩) | 9 => v = .int .i64 (c : Nat) | 10 => v = .bool false | _ => True) (fun _ wz => ECs 4 e g cap x 2 c wr wz) (fun a b => Fr [] a b) (by kernel_rfl) (by kernel_rfl) (by kernel_rfl) ?hst ⟨⟨k0, k1, k2⟩, (Fr.refl [] _).drew⟩ ?hops ?hfin
    case hst =>
     intro j v a b h f
     split at h <;> first | exact h | exact Rd.fr h f (fun _ h => by cases h)
    case hops =>
     repeat' (first | exact OpsOk.nil | refine OpsOk.cons ?_ ?_)
     all_goals try exact rgT
     ·skip
      intro D X w' K hD hcl hS hI hK
      simp only [afterI, Region.binds, forall_const] at hI
      simp only [putL, pE0, pE1, pE4, pE5, pE6, Nat.reduceAdd, up, Nat.reduceEqDiff, if_true, if_false, reduceIte] at hK ⊢
      try simp only [hI] at hK
      go_simp
      exact hK.out _ _ (Rd.lit2 0 2) (hS.fr ((Fr.refl [] _).alloc _)) ((Fr.refl [] _).alloc _)
     ·skip
      intro D X w' K hD hcl hS hI hK
      simp only [afterI, Region.binds, forall_const] at hI
      simp only [putL, pE0, pE1, pE4, pE5, pE6, Nat.reduceAdd, up, Nat.reduceEqDiff, if_true, if_false, reduceIte] at hK ⊢
      try simp only [hI] at hK
      go_simp
      refine (HM.out _ _ hS.2.out hI.2.1).mono ?_
      rintro en w3 ⟨rfl, f3⟩
      exact hK.out _ _ rfl (hS.fr f3) f3
    case hfin =>
     intro D X wa hS hD hI
     simp only [putL, pE0, pE1, pE4, pE5, pE6, Nat.reduceAdd]
     have hb : X 10 = .bool false := hI 10 (by decide)
     rw [hb]
     have HFW := hS.2
     clear hb hS hD hI HM k0 k1 k2
     obtain ⟨e1, e2, e3⟩ := hA.out
     have hle := trim_le (K := Kc) (r := 2) (n := nn) (by rw [HN1.out]; omega)
     rw [hle] at e1
     have E1 := Lib.hid e1
     clear e1
     have H1 := HHH.out.fr0 irokA HFW.out
     have hs1 := hsc
     have hg1 := hgc.same HFW.out.nil
     have HE3 := Lib.hid e3
     clear HHH hsc hgc hle e2 e3 hA
     have HT2 : Hid (arcTrim2 c (pushK K 0 key) = Kc) := by show _ = _; unfold arcTrim2; rw [HK1.out, HMM.out, HNN.out, ← E1.out]
     have hmc : (Kc 0).length + (Kc 1).length + (Kc 2).length ≤ 2 * c := by
      have a0 := congrArg List.length (HE3.out 0 (by decide))
      have a1 := congrArg List.length (HE3.out 1 (by decide))
      have a2 := HN1.out
      have a3 := HP1.out
      have a4 := HMM.out
      omega
     clear E1 HMM HNN HK1 HN1 hnn2 hp0 htp HE3 HP1
     obtain ⟨mm, hmm⟩ : ∃ m, (Kc 0).length + (Kc 1).length + (Kc 2).length = m := ⟨_, rfl⟩
     rw [hmm] at hmc
     obtain ⟨nn, hnn⟩ : ∃ n, 2 * c - mm = n := ⟨_, rfl⟩
     have hnn2 : nn + mm = 2 * c := by omega
     have HNN := Lib.hid hnn
     have hw2 : IntKind.i64.wrap (2 * (c : Int)) = 2 * (c : Int) := IntWalk.i64_in _ (by omega)
     obtain ⟨K1, rfl⟩ : ∃ K', K' = Kc := ⟨Kc, rfl⟩
     obtain ⟨F1, rfl⟩ : ∃ F', F' = Fc := ⟨Fc, rfl⟩
     have HMM := Lib.hid hmm
     clear hmm hnn hmc q1 q2 q3 q4 hlb hlt
     go_wp2_with fail
     go_loopg [] (K1 3).length (fun gg wr => ∃ (Kc : Rows) (Fc : List Nat), Aside (trim Kc 3 nn = trim K1 3 nn ∧ (Kc 3).length = gg ∧ ∀ i, i ≠ 3 → Kc i = K1 i) ∧ tot 4 Kc ≤ 70001 ∧ ERows IRepA 4 189 wr e g cap x Fc Kc [.int .i64 (c : Nat), .int .i64 (p : Nat)] ∧ Sub Fc F w ∧ Fr F w wr)
     case atStart => exact ⟨K1, F1, ⟨rfl, rfl, fun _ _ => rfl⟩, by omega, H1, hs1, hg1⟩
     case round =>
      obtain ⟨Kc, Fc, hA, htc, H, hsc, hgc⟩ := hrel
      obtain ⟨n1, hn1⟩ : ∃ n, (Kc 3).length = n := ⟨_, rfl⟩
      obtain ⟨s, hs⟩ : ∃ s, (([0, 1, 2, 3] : List Nat).map fun i => (Kc i).length).sum = s := ⟨_, rfl⟩
      have hsn : s = n1 + mm := by
       have e := hA.out.2.2
       rw [← hs, ← HMM.out, ← hn1]
       simp [e]
       omega
      have k0 := H.k0
      have k1 := H.k1
      have k2 := H.kr0
      have HM := amanyR H [0, 1, 2, 3] (by decide) (by decide) hs
      have HN1 := Lib.hid hn1
      have HHH := Lib.hid H
      have hlb : n1 ≤ 70001 := by rw [← hn1]; exact Nat.le_trans (len_tot (by omega)) htc
      clear hs hn1 H
      by_cases hlt : nn < n1
      ·have q1 : (2 * c : Int) < (s : Int) := by omega
       have q2 : 2 * c < s := by omega
       clear hsn
       go_wp2_with fail
       refine wp_region_inv (fun j v wz => match j with | 0 | 1 | 2 | 6 | 7 => v = ptr e | 3 => v = .agg #[.slice (some ⟨g, 0, none⟩) 4 cap, ptr x] | 4 => Rd wz 1 v 4 ([0, 1, 2, 3].map fun i => Value.int .i64 (i : Nat)) | 5 => v = .int .i64 (s : Nat) | 8 => v = .pointer (some ⟨e, 2, none⟩) | 9 => v = .int .i64 (c : Nat) | 10 => v = .int .i64 (2 * (c : Int)) | 11 => v = .bool true | _ => True) (fun _ wz => ECs 4 e g cap x 2 c wr wz) (fun a b => Fr [] a b) (by kernel_rfl) (by kernel_rfl) (by kernel_rfl) ?hst ⟨⟨k0, k1, k2⟩, (Fr.refl [] _).drew⟩ ?hops ?hfin
       case hst =>
        intro j v a b h f
        split at h <;> first | exact h | exact Rd.fr h f (fun _ h => by cases h)
       case hops =>
        repeat' (first | exact OpsOk.nil | refine OpsOk.cons ?_ ?_)
        all_goals try exact rgT
        ·skip
         intro D X w' K hD hcl hS hI hK
         simp only [afterI, Region.binds, forall_const] at hI
         simp only [putL, pE0, pE1, pE4, pE5, pE6, Nat.reduceAdd, up, Nat.reduceEqDiff, if_true, if_false, reduceIte] at hK ⊢
         try simp only [hI] at hK
         go_simp
         exact hK.out _ _ (Rd.lit4 0 1 2 3) (hS.fr ((Fr.refl [] _).alloc _)) ((Fr.refl [] _).alloc _)
        ·skip
         intro D X w' K hD hcl hS hI hK
         simp only [afterI, Region.binds, forall_const] at hI
         simp only [putL, pE0, pE1, pE4, pE5, pE6, Nat.reduceAdd, up, Nat.reduceEqDiff, if_true, if_false, reduceIte] at hK ⊢
         try simp only [hI] at hK
         go_simp
         refine (HM.out _ _ hS.2.out hI.2.1).mono ?_
         rintro en w3 ⟨rfl, f3⟩
         exact hK.out _ _ rfl (hS.fr f3) f3
       case hfin =>
        intro D X wa hS hD hI
        simp only [putL, pE0, pE1, pE4, pE5, pE6, Nat.reduceAdd]
        have hb : X 11 = .bool true := hI 11 (by decide)
        rw [hb]
        have HFW := hS.2
        have k0 := hS.1.1
        have k1 := hS.1.2.1
        clear hb hS hD hI HM
        obtain ⟨o, ho⟩ : ∃ o, oldest Kc 3 = o := ⟨_, rfl⟩
        have H2 := HHH.out.fr0 irokA HFW.out
        have HO := aoldR H2 (by decide) ho
        have HD := adropR H2 (by omega) o (by rw [← ho]; exact oldest_sz HHH.out.nd _)
        have HOO := Lib.hid ho
        clear H2 ho k2
        go_wp2_with fail
        refine wp_region_inv (fun j v wz => match j with | 0 | 1 | 2 | 4 | 5 | 6 => v = ptr e | 3 | 7 => v = .agg #[.slice (some ⟨g, 0, none⟩) 4 cap, ptr x] | 8 => v = .string o | _ => True) (fun D wz => (wz.cell? ⟨e, 0, none⟩ = some (.slice (some ⟨g, 0, none⟩) 4 cap) ∧ wz.cell? ⟨e, 1, none⟩ = some (ptr x)) ∧ Hid (if D 9 = true then ADrop wa e g cap x Fc Kc c p o wz else Fr [] wa wz)) (fun _ _ => True) (by kernel_rfl) (by kernel_rfl) (by kernel_rfl) (fun _ _ _ _ h _ => h) ⟨⟨k0, k1⟩, (Fr.refl [] _).drew⟩ ?hops ?hfin
        case hops =>
         repeat' (first | exact OpsOk.nil | refine OpsOk.cons ?_ ?_)
         all_goals try exact rgT
         ·skip
          intro D X w' K hD hcl hS hI hK
          simp only [afterI, Region.binds, forall_const] at hI
          simp only [putL, pE0, pE1, pE4, pE5, pE6, Nat.reduceAdd, up, Nat.reduceEqDiff, if_true, if_false, reduceIte] at hK ⊢
          try simp only [hI] at hK
          have h9 := hcl.not hD 9 (by kernel_rfl)
          have hz := hS.2.out
          rw [h9] at hz
          go_simp
          refine (HO.out _ hz).mono ?_
          rintro en w3 ⟨rfl, f3⟩
          refine hK.out _ _ rfl ⟨⟨cell_fr f3 hS.1.1 (by simp), cell_fr f3 hS.1.2 (by simp)⟩, ?_⟩ trivial
          show if D 9 = true then _ else _
          rw [h9]
          exact Fr.same hz f3
         ·skip
          intro D X w' K hD hcl hS hI hK
          simp only [afterI, Region.binds, forall_const] at hI
          simp only [putL, pE0, pE1, pE4, pE5, pE6, Nat.reduceAdd, up, Nat.reduceEqDiff, if_true, if_false, reduceIte] at hK ⊢
          try simp only [hI] at hK
          have hz := hS.2.out
          rw [hD] at hz
          go_simp
          refine (HD.out _ hz).mono ?_
          rintro en w3 ⟨rfl, hgo, l0, l1⟩
          exact hK.out _ _ trivial ⟨⟨l0, l1⟩, hgo⟩ trivial
        case hfin =>
         intro D X wb hS hD hI
         simp only [putL, pE0, pE1, pE4, pE5, pE6, Nat.reduceAdd]
         have hz : ADrop wa e g cap x Fc Kc c p o wb := by have := hS.2.out; rw [hD 9 (by decide)] at this; exact this
         clear hS hD hI
         obtain ⟨F2, H2, hs2, hg2⟩ := hz
         rw [← HOO.out] at H2
         have hnd := HHH.out.nd
         have hst := trim_step hnd (r := 3) (n := nn) (by rw [HN1.out]; exact hlt)
         have hdl := drop_len_in hnd (oldest_mem (K := Kc) (r := 3) (by rw [HN1.out]; omega))
         have hdt := tot_drop 4 Kc (oldest Kc 3)
         obtain ⟨e1, e2, e3⟩ := hA.out
         have hd1 := hdl 3
         simp only [if_true] at hd1
         have FIN : Hid (∀ i, i ≠ 3 → dropK Kc (oldest Kc 3) i = K1 i) := fun i hi => by
          rw [← e3 i hi, dropK_one hnd (oldest_mem (K := Kc) (r := 3) (by rw [HN1.out]; omega)), up_other _ _ _ _ hi]
         have FI2 := Lib.hid (hsc.fr hgc (hs2.old HFW.out.size))
         have FI3 := hgc.via hsc (HFW.out.nil.same hg2)
         clear k0 k1 hdl
         go_wp2_with fail
         go_roundg ((dropK Kc (oldest Kc 3)) 3).length
         case measure => omega
         case rel => exact ⟨_, F2, ⟨hst.trans e1, rfl, FIN.out⟩, by omega, H2, FI2.out, FI3⟩
      ·have q1 : (s : Int) ≤ (2 * c : Int) := by omega
       have q2 : decide (2 * c < s) = false := decide_eq_false (by omega)
       have q3 : s ≤ 2 * c := by omega
       have q4 : decide ((2 * c : Int) < (s : Int)) = false := decide_eq_false (by omega)
       clear hsn
       go_wp2_with fail
       refine wp_region_inv (fun j v wz => match j with | 0 | 1 | 2 | 6 | 7 => v = ptr e | 3 => v = .agg #[.slice (some ⟨g, 0, none⟩) 4 cap, ptr x] | 4 => Rd wz 1 v 4 ([0, 1, 2, 3].map fun i => Value.int .i64 (i : Nat)) | 5 => v = .int .i64 (s : Nat) | 8 => v = .pointer (some ⟨e, 2, none⟩) | 9 => v = .int .i64 (c : Nat) | 10 => v = .int .i64 (2 * (c : Int)) | 11 => v = .bool false | _ => True) (fun _ wz => ECs 4 e g cap x 2 c wr wz) (fun a b => Fr [] a b) (by kernel_rfl) (by kernel_rfl) (by kernel_rfl) ?hst ⟨⟨k0, k1, k2⟩, (Fr.refl [] _).drew⟩ ?hops ?hfin
       case hst =>
        intro j v a b h f
        split at h <;> first | exact h | exact Rd.fr h f (fun _ h => by cases h)
       case hops =>
        repeat' (first | exact OpsOk.nil | refine OpsOk.cons ?_ ?_)
        all_goals try exact rgT
        ·skip
         intro D X w' K hD hcl hS hI hK
         simp only [afterI, Region.binds, forall_const] at hI
         simp only [putL, pE0, pE1, pE4, pE5, pE6, Nat.reduceAdd, up, Nat.reduceEqDiff, if_true, if_false, reduceIte] at hK ⊢
         try simp only [hI] at hK
         go_simp
         exact hK.out _ _ (Rd.lit4 0 1 2 3) (hS.fr ((Fr.refl [] _).alloc _)) ((Fr.refl [] _).alloc _)
        ·skip
         intro D X w' K hD hcl hS hI hK
         simp only [afterI, Region.binds, forall_const] at hI
         simp only [putL, pE0, pE1, pE4, pE5, pE6, Nat.reduceAdd, up, Nat.reduceEqDiff, if_true, if_false, reduceIte] at hK ⊢
         try simp only [hI] at hK
         go_simp
         refine (HM.out _ _ hS.2.out hI.2.1).mono ?_
         rintro en w3 ⟨rfl, f3⟩
         exact hK.out _ _ rfl (hS.fr f3) f3
       case hfin =>
        intro D X wa hS hD hI
        simp only [putL, pE0, pE1, pE4, pE5, pE6, Nat.reduceAdd]
        have hb : X 11 = .bool false := hI 11 (by decide)
        rw [hb]
        have HFW := hS.2
        clear hb hS hD hI HM k0 k1 k2
        obtain ⟨e1, e2, e3⟩ := hA.out
        have hle := trim_le (K := Kc) (r := 3) (n := nn) (by rw [HN1.out]; omega)
        rw [hle] at e1
        have E1 := Lib.hid e1
        clear e1
        have H1 := HHH.out.fr0 irokA HFW.out
        have hs1 := hsc
        have hg1 := hgc.same HFW.out.nil
        have HE3 := Lib.hid e3
        clear HHH hsc hgc hle e2 e3 hA
        have HT3 : Hid (arcTrim3 c K1 = Kc) := by show _ = _; unfold arcTrim3; rw [HMM.out, HNN.out, ← E1.out]
        go_wp2
        go_ret
        refine ⟨rfl, Fc, ?_, hs1, hg1⟩
        rw [← HKT.out, HT2.out, HT3.out]
        exact H1
end
/-- Load, whatever the key. -/
theorem aload {w : World} {e : Nat} {F : List Nat} {s : Arc} (H : EArc w e F s) (key : ByteArray) (hz : key.size ≤ maxLen) : Calls Tryz.prog 288 #[ptr e, .string key] w (StepRet EArc w e F (.bool (s.load key).1) (s.load key).2) := by
 have HE := Lib.hid H
 have hinv := H.1.load hz
 obtain ⟨hi, g, cap, x, h⟩ := H
 obtain ⟨K, p, c⟩ := s
 have HL : Hid (∀ W, Fr [] w W → Calls Tryz.prog 287 #[ptr e] W fun en w' => en = .returned (.int .i64 ((K 0).length + (K 1).length : Nat)) ∧ Fr [] W w') := fun W f => elenA (h.fr0 irokA f) rfl
 have HH : ∀ b, decide (key ∈ K 0 ∨ key ∈ K 1) = b → Hid (∀ W, Fr [] w W → Calls Tryz.prog 285 #[ptr e, .string key] W fun en w' => en = .returned (.bool b) ∧ Fr [] W w') := fun b hb W f => ehasA (h.fr0 irokA f) key hz hb
 by_cases h1 : Arc.has ⟨K, p, c⟩ key = true
 ·have e1 : Arc.load ⟨K, p, c⟩ key = (false, ⟨K, p, c⟩) := by unfold Arc.load; rw [if_pos (.inl h1)]
  rw [e1]
  exact loadHitA HE key (HH true h1)
 ·have h1f : decide (key ∈ K 0 ∨ key ∈ K 1) = false := (Bool.not_eq_true _).mp h1
  by_cases h2 : Arc.len ⟨K, p, c⟩ = c
  ·have e1 : Arc.load ⟨K, p, c⟩ key = (false, ⟨K, p, c⟩) := by unfold Arc.load; rw [if_pos (.inr h2)]
   rw [e1]
   exact loadFullA HE key (n := (K 0).length + (K 1).length) (c := c) h.kr0 (beq_iff_eq.2 (congrArg Nat.cast h2)) (HH false h1f) HL
  ·have e1 : Arc.load ⟨K, p, c⟩ key = (true, ⟨arcTrim3 c (arcTrim2 c (pushK K 0 key)), p, c⟩) := by unfold Arc.load; rw [if_neg (fun hh => hh.elim h1 h2)]
   rw [e1] at hinv ⊢
   have hr := hi.res
   have ha := hi.all
   have hc2 := hi.c2
   simp only [Arc.len] at hr ha hc2 h2
   refine (aloadGo (K := K) (c := c) (p := p) h hi.nd hc2 (by omega) key hz rfl (by rw [beq_eq_false_iff_ne]; omega) (by omega) (HH false h1f) HL).mono ?_
   rintro en w' ⟨rfl, F2, h2, hs, hf⟩
   exact ⟨rfl, F2, ⟨hinv, g, cap, x, h2⟩, hs, hf⟩
end Go.Proofs.YtfeicmpbfbhiiaaGreat
