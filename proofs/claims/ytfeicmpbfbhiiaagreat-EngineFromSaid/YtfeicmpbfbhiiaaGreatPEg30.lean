/- Texts of a proof about the given program, those parts that this claim reaches. -/
import Derived.Test.YtfeicmpbfbhiiaaGreatPEg26
import Derived.Test.YtfeicmpbfbhiiaaGreatPEg29
set_option linter.unusedVariables false
set_option linter.unusedSimpArgs false
namespace Go.Proofs.YtfeicmpbfbhiiaaGreat
open Go.RowKit
attribute [local go_sem ↓] Go.wp_at_zero Go.wp_at_succ
section
variable {w w' w1 w2 : World} {e c : Nat} {F G : List Nat} {X : Nat → RowD} {s : S3}
theorem RE12.reads (h : RE12 w e F s) (key : ByteArray) : Hid (∀ m, Calls Tryz.prog 174 #[ptr e, .string key] (w.drewN m) fun en w' => en = .returned (.bool (s.has key)) ∧ w' = w.drewN m) ∧ Hid (∀ m, Calls Tryz.prog 190 #[ptr e] (w.drewN m) fun en w' => en = .returned (.int .i64 (s.len : Nat)) ∧ ∃ q, w' = (w.drewN m).drewN q) := by
 have hi := h.1
 have l0 := hi.len 0
 have l1 := hi.len 1
 refine ⟨fun m => ?_, fun m => ?_⟩
 ·have := r12has (h.2.fr0 ((Fr.refl [] w).drewN m)) rfl rfl (by rw [cellsOf_len]; omega) (by rw [cellsOf_len]; omega) key
  rw [cellsOf_keys, cellsOf_keys] at this
  exact this
 ·have e0 : (XS3 s.K s.C 0).n = (s.K 0).length := cellsOf_len _ _
  have e1 : (XS3 s.K s.C 1).n = (s.K 1).length := cellsOf_len _ _
  have := r12len (h.2.fr0 ((Fr.refl [] w).drewN m)) (by rw [e0, e1]; omega)
  rw [e0, e1] at this
  exact this
set_option maxHeartbeats 1000000 in
set_option maxRecDepth 100000 in
theorem r12load_no (h : RE12 w e F s) (key : ByteArray) (hin : s.has key = true ∨ s.len = s.c) : Calls Tryz.prog 123 #[ptr e, .string key] w (StepRet RE12 w e F (.bool false) s) := by
 obtain ⟨HH, HL⟩ := h.reads key
 have HE := Lib.hid h
 obtain ⟨hi, V, h⟩ := h
 have k5 := h.kr 0 rfl
 generalize s.has key = b at *
 generalize s.len = n at *
 clear h hi
 cases b with
 | true =>
  go_enter Tryz.func123, Tryz.ntmps123
  go_wp2
  go_quiet (first | (go_at_call 174; exact Calls.quiet_of_same (HH.out _)))
  go_wp2
  go_ret
  exact ⟨rfl, F, ⟨HE.out.1, HE.out.2.fr0 ((Fr.refl [] w).drewN _)⟩, Sub.refl _ _, (Fr.refl _ w).drewN _⟩
 | false =>
  have hnc : n = s.c := by simpa using hin
  have q1 : (s.c : Int) ≤ (n : Int) := by omega
  have q2 : s.c ≤ n := by omega
  clear hin hnc
  go_enter Tryz.func123, Tryz.ntmps123
  go_wp2
  go_quiet (first | (go_at_call 174; exact Calls.quiet_of_same (HH.out _)) | (go_at_call 190; exact Calls.quiet_of (HL.out _)))
  go_wp2
  go_ret
  exact ⟨rfl, F, ⟨HE.out.1, HE.out.2.fr0 ((Fr.refl [] w).drewN _)⟩, Sub.refl _ _, (Fr.refl _ w).drewN _⟩
theorem xs3_main {K : Rows} {C : Cnt} {key : ByteArray} (h0 : key ∉ K 0) (h1 : key ∉ K 1) (hn : RNd 3 K) (q : Nat) : up (up (XS3 K C) 2 (strR (cutQ (K 2) key))) 1 (cellR12 (cellsOf (K 1) C ++ [(key, q)])) = XS3 (pushK K 1 key) (upM C key (some q)) := by
 have d0 : dropK K key 0 = K 0 := dropK_not h0
 have d1 : dropK K key 1 = K 1 := dropK_not h1
 funext i
 match i with
 | 0 =>
  rw [up_other _ _ _ _ (by decide), up_other _ _ _ _ (by decide)]
  show cellR12 _ = cellR12 _
  rw [show pushK K 1 key 0 = K 0 from by rw [pushK, up_other _ _ _ _ (by decide), d0], cellsOf_upM h0]
 | 1 =>
  rw [up_same]
  show cellR12 _ = cellR12 _
  rw [show pushK K 1 key 1 = K 1 ++ [key] from by rw [pushK, up_same, d1]]
  have := cellsOf_upM (C := C) h1 (some q)
  unfold cellsOf at this ⊢
  rw [List.map_append, this]
  simp [cntOf, upM]
 | 2 =>
  rw [up_other _ _ _ _ (by decide), up_same]
  show strR _ = strR _
  rw [pushK, up_other _ _ _ _ (by decide)]
  rfl
 | i + 3 =>
  rw [up_other _ _ _ _ (by omega), up_other _ _ _ _ (by omega)]
  show strR _ = strR _
  rw [pushK, up_other _ _ _ _ (by omega)]
  show strR _ = strR (dropK K key (i + 3))
  rw [dropK_not (by rw [hn.out (i + 3) (by omega)]; simp)]
set_option maxHeartbeats 1000000 in
set_option maxRecDepth 100000 in
theorem r12load (h : RE12 w e F s) (key : ByteArray) (hz : key.size ≤ maxLen) : Calls Tryz.prog 123 #[ptr e, .string key] w (StepRet RE12 w e F (.bool (s.load key).1) (s.load key).2) := by
 have hinv := h.1.load hz
 unfold S3.load at hinv ⊢
 by_cases hin : s.has key = true ∨ s.len = s.c
 ·rw [if_pos hin]
  exact r12load_no h key hin
 rw [if_neg hin] at hinv ⊢
 have h1 : s.has key = false := by cases q : s.has key; rfl; exact absurd (.inl q) hin
 have h2 : s.len < s.c := by have := h.1.res; have : s.len ≠ s.c := fun q => hin (.inr q); unfold S3.len at *; omega
 clear hin
 have hi := h.1
 obtain ⟨HH, HL⟩ := h.reads key
 have hno : ¬ (key ∈ s.K 0 ∨ key ∈ s.K 1) := by unfold S3.has at h1; simpa using h1
 rw [h1] at HH
 have hX := xs3_main (C := s.C) (fun q => hno (.inl q)) (fun q => hno (.inr q)) hi.ci.nd 0
 have HX := Lib.hid hX
 have HB : Hid ((s.K 1).length ≤ 4000) := hi.len 1
 have HKN := Lib.hid fun m => r12known (h.2.fr0 ((Fr.refl [] w).drewN m)) (l := s.K 2) rfl (Nat.le_trans (hi.len 2) (by decide)) key
 obtain ⟨hi, V, h⟩ := h
 have k5 := h.kr 0 rfl
 obtain ⟨i0, hii, hz0, hz1, hz2⟩ := info_parts2 infoC12
 generalize hs : s.len = n at *
 obtain ⟨K, C, c⟩ := s
 simp only at *
 have HI := Lib.hid hinv
 have q1 : decide (c ≤ n) = false := decide_eq_false (by omega)
 have q2 : (n : Int) < (c : Int) := by omega
 clear h hno hX hi hinv hs h1 h2
 go_enter Tryz.func123, Tryz.ntmps123
 go_wp2
 go_quiet (first | (go_at_call 174; exact Calls.quiet_of_same (HH.out _)) | (go_at_call 190; exact Calls.quiet_of (HL.out _)))
 go_wp2_with fail
 refine (HKN.out _).mono ?_
 rintro en w3 ⟨rfl, F3, ⟨V3, h3⟩, s3, t3⟩
 have HST := Lib.hid (And.intro (s3.old (Nat.le_refl _)) (((Fr.refl F w).drewN _).same t3))
 obtain ⟨a0, n0, c0, a1, n1, c1, a2, n2, c2, a3, n3, c3, hn0, hn1, hn2, hn3, h3⟩ := h3.lit (by decide)
 have k1 := h3.k (i := 1) (by decide)
 simp only [V4] at k1
 have H := Lib.hid h3
 have hn1' : (cellsOf (K 1) C).length = n1 := hn1
 have HS1 : Hid (Sl w3 228 2 (.slice a1 n1 c1) n1 (cellR12 (cellsOf (K 1) C)).xs) := by
  have q : Sl w3 228 2 (.slice a1 n1 c1) (cellsOf (K 1) C).length (cellR12 (cellsOf (K 1) C)).xs := h3.s 1 (by decide)
  rw [hn1'] at q
  exact q
 have HN1 := Lib.hid hn1'
 have hb1 : n1 ≤ 4000 := by rw [← hn1]; show (cellsOf (K 1) C).length ≤ _; rw [cellsOf_len]; exact HB.out
 clear s3 t3 h3 hn0 hn1 hn1' hn2 hn3 HKN
 go_wp2_with (at_builtin; refine wpList_app rfl _ _ _ _ rfl Tryz.underlying169 hii hz0 hz1 hz2 rfl (.slice a1 n1 c1) (.slice (some ⟨w3.heap.size, 0, none⟩) 1 1) n1 1 (cellR12 (cellsOf (K 1) C)).xs [.string key, .int .i64 0] rfl rfl ?hsl (oneC12 _) ?src ?c3 ?c4 _ rfl ?_)
 case hsl => exact Sl.fr HS1.out ((Fr.refl [] w3).alloc _) (fun _ _ => by simp)
 case src => exact Src.built Tryz.underlying169 w3 [.string key, .int .i64 0] _ _ rfl rfl (by simp [Value.oneCell'])
 case c3 => unfold maxLen; omega
 case c4 => omega
 intro b' cp w4 ha1 ha2 ha3
 have hfz := RV.appX (i := 1) (v' := .slice b' (n1 + 1) cp) (r := cellR12 (cellsOf (K 1) C ++ [(key, 0)])) H.out (by decide) ((Fr.refl [] w3).alloc _) (by
  have e1 : (cellsOf (K 1) C ++ [(key, 0)]).length = n1 + 1 := by rw [List.length_append, HN1.out]; rfl
  have e2 : (cellR12 (cellsOf (K 1) C ++ [(key, 0)])).xs = (cellR12 (cellsOf (K 1) C)).xs ++ [.string key, .int .i64 0] := by simp
  show Sl w4 228 2 _ (cellsOf (K 1) C ++ [(key, 0)]).length (cellR12 (cellsOf (K 1) C ++ [(key, 0)])).xs
  rw [e1, e2]
  exact ha1) ha2 (ha3.imp id fun z => by rw [World.size_alloc]; exact z)
 have p1 := hfz.2.1.trans k1
 have y1 := hfz.2.2
 have HR : Hid (R12Go w e F (XS3 (pushK K 1 key) (upM C key (some 0))) c (w4.setCell ⟨e, 1, none⟩ (.slice b' (n1 + 1) cp))) := RG.r12 (RG.trans HST.out.1 HST.out.2 hfz.1) HX.out
 clear hfz ha1 ha2 ha3 k1
 go_wp2
 go_ret
 obtain ⟨F4, a, b, d⟩ := HR.out
 exact ⟨rfl, F4, ⟨HI.out, a⟩, b, d⟩
end
end Go.Proofs.YtfeicmpbfbhiiaaGreat
set_option linter.unusedVariables false
set_option linter.unusedSimpArgs false
namespace Go.Proofs.YtfeicmpbfbhiiaaGreat
open Go.RowKit
attribute [local go_sem ↓] Go.wp_at_zero Go.wp_at_succ
def XL (B : Stk) (q : List ByteArray) : Nat → RowD := fun i => match i with | 0 => cellR13 B | 1 => strR q | _ => strR []
def R13 (w : World) (e : Nat) (F : List Nat) (B : Stk) (q : List ByteArray) (c : Nat) : Prop := ∃ V, RV 2 158 w e F [] V (XL B q) [.int .i64 (c : Nat)]
def R13Go (w : World) (e : Nat) (F : List Nat) (B : Stk) (q : List ByteArray) (c : Nat) (w' : World) : Prop := ∃ F', R13 w' e F' B q c ∧ Sub F' F w ∧ Fr F w w'
/-- What a key is; 0: it is not there. -/
def isOf (B : Stk) (key : ByteArray) : Nat := ((B.find? fun e => decide (e.1 = key)).map (·.2)).getD 0
def cntB (B : Stk) (is : Nat) : Nat := B.countP fun e => decide (e.2 = is)
theorem cntB_snoc (B : Stk) (is j : Nat) (h : j < B.length) : cntB (B.take (j + 1)) is = cntB (B.take j) is + (if B[j].2 = is then 1 else 0) := by
 unfold cntB
 rw [List.take_add_one, List.getElem?_eq_getElem h, List.countP_append]
 by_cases e : B[j].2 = is <;> simp [e]
section
variable {w w' w1 w2 : World} {e c : Nat} {F G : List Nat} {B : Stk} {q : List ByteArray}
theorem R13.fr (h : R13 w e F B q c) (f : Fr G w w') (hd : Dis F G) : R13 w' e F B q c := by
 obtain ⟨V, h⟩ := h
 exact ⟨V, h.fr f hd⟩
theorem R13.fr0 (h : R13 w e F B q c) (f : Fr [] w w') : R13 w' e F B q c := h.fr f (fun _ _ => by simp)
theorem R13.lt (h : R13 w e F B q c) : Lt F w := by
 obtain ⟨V, h⟩ := h
 exact h.lt
theorem RG.r13 {V : Nat → Value} {X : Nat → RowD} (h : RG 2 158 w e F [] V X [.int .i64 (c : Nat)] w') (hX : X = XL B q) : R13Go w e F B q c w' := by
 obtain ⟨F', h1, h2, h3⟩ := h
 subst hX
 exact ⟨F', ⟨V, h1⟩, h2, h3⟩
theorem R13Go.trans {B2 : Stk} {q2 : List ByteArray} {F1 : List Nat} (h1 : Sub F1 F w) (h2 : Fr F w w1) (h : R13Go w1 e F1 B2 q2 c w') : R13Go w e F B2 q2 c w' := by
 obtain ⟨F', a1, a2, a3⟩ := h
 exact ⟨F', a1, h1.fr h2 a2, h2.via h1 a3⟩
/-- Its cells. -/
theorem R13.open (h : R13 w e F B q c) : ∃ a0 n0 c0 a1 n1 c1, Hid (∃ V, RV 2 158 w e F [] V (XL B q) [.int .i64 (c : Nat)] ∧ V 0 = .slice a0 n0 c0 ∧ V 1 = .slice a1 n1 c1) ∧ B.length = n0 ∧ q.length = n1 ∧ w.cell? ⟨e, 0, none⟩ = some (.slice a0 n0 c0) ∧ w.cell? ⟨e, 1, none⟩ = some (.slice a1 n1 c1) ∧ w.cell? ⟨e, 2, none⟩ = some (.int .i64 (c : Nat)) ∧ RowAt w (.slice a0 n0 c0) (cellR13 B) ∧ SS w (.slice a1 n1 c1) q := by
 obtain ⟨V, h⟩ := h
 obtain ⟨a0, n0, c0, a1, n1, c1, a2, n2, c2, a3, n3, c3, hn0, hn1, hn2, hn3, h⟩ := h.lit (by decide)
 exact ⟨a0, n0, c0, a1, n1, c1, ⟨_, h, rfl, rfl⟩, hn0, hn1, h.k (i := 0) (by decide), h.k (i := 1) (by decide), h.kr 0 rfl, h.s 0 (by decide), h.s 1 (by decide)⟩
set_option maxRecDepth 100000 in
theorem r13count (h : R13 w e F B q c) (hl : B.length ≤ 100000) (is : Nat) : Calls Tryz.prog 182 #[ptr e, .int .u8 (is : Nat)] w fun en w' => en = .returned (.int .i64 (cntB B is : Nat)) ∧ w' = w := by
 obtain ⟨a0, n0, c0, a1, n1, c1, H, hn0, hn1, k0, k1, k2, s0, s1⟩ := h.open
 have HS := Lib.hid s0
 have HN := Lib.hid hn0
 rw [hn0] at hl
 clear h hn0 hn1 s0 s1 k1 k2
 go_enter Tryz.func182, Tryz.ntmps182
 go_wp2
 go_loopw [5, 6] (fun u5 u6 wr => ∃ j m : Nat, j ≤ n0 ∧ u6 = .int .i64 j ∧ u5 = .int .i64 m ∧ m ≤ j ∧ wr = w ∧ Hid (m = cntB (B.take j) is)) (fun _ u6 _ => n0 - (intOf u6).toNat)
 case atStart => exact ⟨0, 0, Nat.zero_le _, rfl, rfl, Nat.le_refl _, rfl, rfl⟩
 case round =>
  obtain ⟨j, m, hj, rfl, rfl, hm, rfl, hM⟩ := hrel
  by_cases hlt : j < n0
  ·have hjl : j < B.length := by rw [HN.out]; exact hlt
   obtain ⟨g, o, rfl, x0, x1⟩ := cell13_at HS.out hjl
   have hsn := cntB_snoc B is j hjl
   obtain ⟨k, hk⟩ : ∃ k, B[j].2 = k := ⟨_, rfl⟩
   rw [hk] at x1 hsn
   have q1 : (j : Int) < (n0 : Int) := by omega
   by_cases eq : k = is
   ·have b9 : ((k : Int) == (is : Int)) = true := by rw [beq_iff_eq]; omega
    have b8 : (k == is) = true := by rw [beq_iff_eq]; omega
    have HSN : Hid (m + 1 = cntB (B.take (j + 1)) is) := by show _ = _; rw [hsn, if_pos eq, hM.out]
    clear hsn hk x0
    go_wp2
    exact ⟨⟨j + 1, m + 1, by omega, by go_num, by go_num, by omega, by first | rfl | trivial, HSN⟩, by simp [intOf]; omega⟩
   ·have b9 : ((k : Int) == (is : Int)) = false := by rw [beq_eq_false_iff_ne]; omega
    have b8 : (k == is) = false := by rw [beq_eq_false_iff_ne]; omega
    have HSN : Hid (m = cntB (B.take (j + 1)) is) := by show _ = _; rw [hsn, if_neg eq, hM.out]; rfl
    clear hsn hk x0
    go_wp2
    exact ⟨⟨j + 1, m, by omega, by go_num, rfl, by omega, by first | rfl | trivial, HSN⟩, by simp [intOf]; omega⟩
  ·have : j = n0 := by omega
   subst this
   go_wp2
   go_ret
   have e9 : B.take j = B := by rw [← HN.out]; exact List.take_length
   have := hM.out
   rw [e9] at this
   exact ⟨by rw [← this]; rfl, rfl⟩
set_option maxRecDepth 100000 in
theorem r13most (h : R13 w e F B q c) (h1 : 1 ≤ c) (h2 : c ≤ 1024) : Calls Tryz.prog 183 #[ptr e] w fun en w' => en = .returned (.int .i64 (c - max 1 (c / 10) : Nat)) ∧ ∃ m, w' = w.drewN m := by
 obtain ⟨a0, n0, c0, a1, n1, c1, H, hn0, hn1, k0, k1, k2, s0, s1⟩ := h.open
 clear h H hn0 hn1 s0 s1 k0 k1
 obtain ⟨d, hd⟩ : ∃ d, c / 10 = d := ⟨_, rfl⟩
 obtain ⟨m, hm⟩ : ∃ m, max 1 d = m := ⟨_, rfl⟩
 obtain ⟨r, hr⟩ : ∃ r, c - m = r := ⟨_, rfl⟩
 have e1 : (c : Int) / 10 = (d : Int) := by omega
 have e2 : (if (1 : Int) < (d : Int) then (d : Int) else 1) = (m : Int) := by split <;> omega
 have e3 : (c : Int) - (m : Int) = (r : Int) := by omega
 have e4 : IntKind.i64.wrap ((c : Int) / 10) = (d : Int) := by rw [IntWalk.i64_in _ (by omega)]; exact e1
 have e5 : IntKind.i64.wrap ((c : Int) - (m : Int)) = (r : Int) := by rw [IntWalk.i64_in _ (by omega)]; exact e3
 rw [hd, hm, hr]
 clear hd hm hr
 go_enter Tryz.func183, Tryz.ntmps183
 go_wp2
 go_quiet (fail)
 go_wp2
 go_ret
 exact ⟨rfl, _, rfl⟩
end
end Go.Proofs.YtfeicmpbfbhiiaaGreat
set_option linter.unusedVariables false
set_option linter.unusedSimpArgs false
namespace Go.Proofs.YtfeicmpbfbhiiaaGreat
open Go.RowKit
attribute [local go_sem ↓] Go.wp_at_zero Go.wp_at_succ
theorem isOf_at {B : Stk} {key : ByteArray} {j : Nat} (hj : j < B.length) (h : B[j].1 = key) (hn : ∀ x, x ∈ (B.map (·.1)).take j → x ≠ key) : isOf B key = B[j].2 := by
 unfold isOf
 have : B.find? (fun e => decide (e.1 = key)) = some B[j] := by
  rw [List.find?_eq_some_iff_getElem]
  refine ⟨by simpa using h, j, hj, rfl, fun i hi => ?_⟩
  have := hn B[i].1 (by rw [List.mem_take_iff_getElem]; exact ⟨i, by simp; omega, by simp⟩)
  simpa using this
 rw [this]; rfl
theorem isOf_none {B : Stk} {key : ByteArray} (h : key ∉ B.map (·.1)) : isOf B key = 0 := by
 unfold isOf
 have : B.find? (fun e => decide (e.1 = key)) = none := by
  rw [List.find?_eq_none]
  intro x hx
  simp
  exact fun q => h (q ▸ List.mem_map_of_mem (f := (·.1)) hx)
 rw [this]; rfl
theorem rhas_find {l : List ByteArray} {key : ByteArray} {i : Nat} (h : rhas l key = i) : ∃ hi : i < l.length, l[i] = key ∧ ∀ x, x ∈ l.take i → x ≠ key := by
 unfold rhas at h
 split at h
 ·rename_i k hk
  have hki : k = i := by omega
  subst hki
  obtain ⟨h1, h2, h3⟩ := List.findIdx?_eq_some_iff_getElem.1 hk
  refine ⟨h1, by simpa using h2, fun x hx => ?_⟩
  rw [List.mem_take_iff_getElem] at hx
  obtain ⟨j, hj, rfl⟩ := hx
  have := h3 j (by omega)
  simpa using this
 ·omega
theorem cutS_snoc (B : Stk) (key : ByteArray) (i : Nat) (h : i < B.length) : cutS (B.take (i + 1)) key = cutS (B.take i) key ++ (if B[i].1 = key then [] else [B[i]]) := by
 unfold cutS
 rw [List.take_add_one, List.getElem?_eq_getElem h, List.filter_append]
 by_cases e : B[i].1 = key <;> simp [e]
section
variable {w w' w1 w2 : World} {e c : Nat} {F G : List Nat} {B : Stk} {q : List ByteArray}
set_option maxRecDepth 100000 in
theorem r13at (h : R13 w e F B q c) (hl : B.length ≤ 100000) (key : ByteArray) : Calls Tryz.prog 225 #[ptr e, .string key] w fun en w' => en = .returned (.int .i64 (rhas (B.map (·.1)) key)) ∧ w' = w := by
 obtain ⟨a0, n0, c0, a1, n1, c1, H, hn0, hn1, k0, k1, k2, s0, s1⟩ := h.open
 have HS := Lib.hid s0
 have HN := Lib.hid hn0
 rw [hn0] at hl
 clear h hn0 hn1 s0 s1 k1 k2
 go_enter Tryz.func225, Tryz.ntmps225
 go_wp2
 go_loopw [5] (fun i wr => ∃ j : Nat, j ≤ n0 ∧ i = .int .i64 j ∧ wr = w ∧ Hid (∀ x, x ∈ (B.map (·.1)).take j → x ≠ key)) (fun i _ => n0 - (intOf i).toNat)
 case atStart => exact ⟨0, Nat.zero_le _, rfl, rfl, fun x hx => by simp at hx⟩
 case round =>
  obtain ⟨j, hj, rfl, rfl, hno⟩ := hrel
  by_cases hlt : j < n0
  ·have hjl : j < B.length := by rw [HN.out]; exact hlt
   obtain ⟨g, o, rfl, x0, x1⟩ := cell13_at HS.out hjl
   obtain ⟨k, hk⟩ : ∃ k, B[j].1 = k := ⟨_, rfl⟩
   have hjm : j < (B.map (·.1)).length := by rw [List.length_map]; exact hjl
   have HK : Hid ((B.map (·.1))[j] = k) := by show _ = _; rw [List.getElem_map]; exact hk
   rw [hk] at x0
   have q1 : (j : Int) < (n0 : Int) := by omega
   clear hk x1
   by_cases eq : k = key
   ·have b := str_eq_t eq
    have HE := Lib.hid eq
    clear eq
    go_wp2
    go_ret
    exact ⟨by rw [rhas_at hjm (HK.out.trans HE.out) hno.out]; rfl, rfl⟩
   ·have b := str_ne_f eq
    have hno2 : Hid (∀ x, x ∈ (B.map (·.1)).take (j + 1) → x ≠ key) := fun x hx => by
     rw [List.take_add_one, List.getElem?_eq_getElem hjm] at hx
     rcases List.mem_append.1 hx with q | q
     ·exact hno.out x q
     ·simp only [Option.toList_some, List.mem_singleton] at q; rw [q, HK.out]; exact eq
    go_wp2
    exact ⟨⟨j + 1, by omega, by go_num, by first | rfl | trivial, hno2⟩, by simp [intOf]; omega⟩
  ·have : j = n0 := by omega
   subst this
   go_wp2
   go_ret
   have hno := hno.out
   rw [← HN.out, ← List.length_map (f := (·.1)), List.take_length] at hno
   exact ⟨by rw [rhas_none (fun q => hno key q rfl)]; rfl, rfl⟩
set_option maxRecDepth 100000 in
theorem r13is (h : R13 w e F B q c) (hl : B.length ≤ 100000) (key : ByteArray) : Calls Tryz.prog 203 #[ptr e, .string key] w fun en w' => en = .returned (.int .u8 (isOf B key : Nat)) ∧ w' = w := by
 have HA := Lib.hid (r13at h hl key)
 obtain ⟨a0, n0, c0, a1, n1, c1, H, hn0, hn1, k0, k1, k2, s0, s1⟩ := h.open
 by_cases hm : key ∈ B.map (·.1)
 ·have hr := rhas_mem.2 hm
  obtain ⟨j, hj⟩ := Int.eq_ofNat_of_zero_le hr
  obtain ⟨hji, hjk, hno⟩ := rhas_find hj
  have hjl : j < B.length := by simpa using hji
  have hk : B[j].1 = key := by rw [← hjk]; simp
  have hof := isOf_at hjl hk hno
  obtain ⟨g, o, rfl, x0, x1⟩ := cell13_at s0 hjl
  rw [← hof] at x1
  rw [hj] at HA
  generalize isOf B key = v at x1 ⊢
  have q1 : (j : Int) < (n0 : Int) := by omega
  have q2 : decide ((j : Int) < 0) = false := decide_eq_false (by omega)
  clear h H hn0 hn1 s0 s1 k1 k2 hr hj hji hjk hno hjl hk hof x0 hm
  go_enter Tryz.func203, Tryz.ntmps203
  go_wp2_with fail
  refine HA.out.mono ?_
  rintro en w1 ⟨rfl, rfl⟩
  go_wp2
  go_ret
  exact ⟨rfl, rfl⟩
 ·rw [rhas_none hm] at HA
  rw [isOf_none hm]
  clear h H hn0 hn1 s0 s1 k0 k1 k2 hm
  go_enter Tryz.func203, Tryz.ntmps203
  go_wp2_with fail
  refine HA.out.mono ?_
  rintro en w1 ⟨rfl, rfl⟩
  go_wp2
  go_ret
  exact ⟨rfl, rfl⟩
set_option maxRecDepth 100000 in
theorem r13inQ (h : R13 w e F B q c) (hl : q.length ≤ 100000) (key : ByteArray) : Calls Tryz.prog 229 #[ptr e, .string key] w fun en w' => en = .returned (.bool (decide (key ∈ q))) ∧ w' = w := by
 obtain ⟨a0, n0, c0, a1, n1, c1, H, hn0, hn1, k0, k1, k2, s0, s1⟩ := h.open
 have HS := Lib.hid s1
 have HN := Lib.hid hn1
 rw [hn1] at hl
 clear h hn0 hn1 s0 s1 k0 k2
 go_enter Tryz.func229, Tryz.ntmps229
 go_wp2
 go_loopw [5] (fun i wr => ∃ j : Nat, j ≤ n1 ∧ i = .int .i64 j ∧ wr = w ∧ Hid (∀ x, x ∈ q.take j → x ≠ key)) (fun i _ => n1 - (intOf i).toNat)
 case atStart => exact ⟨0, Nat.zero_le _, rfl, rfl, fun x hx => by simp at hx⟩
 case round =>
  obtain ⟨j, hj, rfl, rfl, hno⟩ := hrel
  by_cases hlt : j < n1
  ·have hjl : j < q.length := by rw [HN.out]; exact hlt
   obtain ⟨g, o, rfl, x0⟩ := RowAt.str (i := j) HS.out hjl
   obtain ⟨k, hk⟩ : ∃ k, q[j] = k := ⟨_, rfl⟩
   have HK := Lib.hid hk
   have HM : Hid (k ∈ q) := by rw [← hk]; exact List.getElem_mem hjl
   rw [hk] at x0
   have q1 : (j : Int) < (n1 : Int) := by omega
   clear hk
   by_cases eq : k = key
   ·have b := str_eq_t eq
    have HE : Hid (decide (key ∈ q) = true) := decide_eq_true (eq ▸ HM.out)
    clear eq
    go_wp2
    go_ret
    exact ⟨by rw [HE.out]; rfl, rfl⟩
   ·have b := str_ne_f eq
    have hno2 : Hid (∀ x, x ∈ q.take (j + 1) → x ≠ key) := fun x hx => by
     rw [List.take_add_one, List.getElem?_eq_getElem hjl] at hx
     rcases List.mem_append.1 hx with z | z
     ·exact hno.out x z
     ·simp only [Option.toList_some, List.mem_singleton] at z; rw [z, HK.out]; exact eq
    go_wp2
    exact ⟨⟨j + 1, by omega, by go_num, by first | rfl | trivial, hno2⟩, by simp [intOf]; omega⟩
  ·have : j = n1 := by omega
   subst this
   go_wp2
   go_ret
   have hno := hno.out
   rw [← HN.out, List.take_length] at hno
   exact ⟨by rw [decide_eq_false (fun z => hno key z rfl)]; rfl, rfl⟩
set_option maxRecDepth 100000 in
theorem r13has (h : R13 w e F B q c) (hl : B.length ≤ 100000) (hl2 : q.length ≤ 100000) (key : ByteArray) : Calls Tryz.prog 171 #[ptr e, .string key] w fun en w' => en = .returned (.bool (decide (isOf B key = 104 ∨ key ∈ q))) ∧ w' = w := by
 have HI := Lib.hid (r13is h hl key)
 have HQ := Lib.hid (r13inQ h hl2 key)
 obtain ⟨v, hv⟩ : ∃ v, isOf B key = v := ⟨_, rfl⟩
 rw [hv] at HI ⊢
 by_cases h1 : v = 104
 ·have b : decide (v = 104 ∨ key ∈ q) = true := decide_eq_true (.inl h1)
  subst h1
  rw [b]
  clear h b hv HQ
  go_enter Tryz.func171, Tryz.ntmps171
  go_wp2_with fail
  refine HI.out.mono ?_
  rintro en w1 ⟨rfl, rfl⟩
  go_wp2
  go_ret
  exact ⟨rfl, rfl⟩
 ·have b : decide (v = 104 ∨ key ∈ q) = decide (key ∈ q) := by simp [h1]
  rw [b]
  have b2 : ((v : Int) == 104) = false := by rw [beq_eq_false_iff_ne]; omega
  clear h b hv
  go_enter Tryz.func171, Tryz.ntmps171
  go_wp2_with fail
  refine HI.out.mono ?_
  rintro en w1 ⟨rfl, rfl⟩
  go_wp2_with fail
  refine HQ.out.mono ?_
  rintro en w1 ⟨rfl, rfl⟩
  go_wp2
  go_ret
  exact ⟨rfl, rfl⟩
set_option maxRecDepth 100000 in
theorem r13len (h : R13 w e F B q c) (hl : B.length ≤ 100000) (hl2 : q.length ≤ 100000) : Calls Tryz.prog 181 #[ptr e] w fun en w' => en = .returned (.int .i64 (q.length + cntB B 104 : Nat)) ∧ ∃ m, w' = w.drewN m := by
 have HC := Lib.hid fun m => r13count (h.fr0 ((Fr.refl [] w).drewN m)) hl 104
 have hcl : cntB B 104 ≤ 100000 := Nat.le_trans List.countP_le_length hl
 obtain ⟨a0, n0, c0, a1, n1, c1, H, hn0, hn1, k0, k1, k2, s0, s1⟩ := h.open
 rw [hn1] at hl2 ⊢
 generalize cntB B 104 = m at HC hcl ⊢
 clear h H hn0 hn1 s0 s1 k0 k2
 go_enter Tryz.func181, Tryz.ntmps181
 go_wp2
 go_quiet (first | (go_at_call 182; exact Calls.quiet_of_same (HC.out _)))
 go_wp2
 go_ret
 exact ⟨rfl, _, rfl⟩
end
end Go.Proofs.YtfeicmpbfbhiiaaGreat
set_option linter.unusedVariables false
set_option linter.unusedSimpArgs false
namespace Go.Proofs.YtfeicmpbfbhiiaaGreat
open Go.RowKit
attribute [local go_sem ↓] Go.wp_at_zero Go.wp_at_succ
theorem XL_up0 (B B2 : Stk) (q : List ByteArray) : up (XL B q) 0 (cellR13 B2) = XL B2 q := by
 funext i
 match i with
 | 0 => rw [up_same]; rfl
 | 1 => rw [up_other _ _ _ _ (by decide)]; rfl
 | i + 2 => rw [up_other _ _ _ _ (by omega)]; rfl
section
variable {w w' w1 w2 : World} {e c : Nat} {F G : List Nat} {B : Stk} {q : List ByteArray}
set_option maxHeartbeats 1000000 in
set_option maxRecDepth 100000 in
theorem r13out (h : R13 w e F B q c) (hl : B.length ≤ 100000) (key : ByteArray) : Calls Tryz.prog 221 #[ptr e, .string key] w fun en w' => en = .returned (.tuple #[]) ∧ R13Go w e F (cutS B key) q c w' := by
 obtain ⟨i0, hii, hz0, hz1, hz2⟩ := info_parts2 infoC13
 obtain ⟨a0, n0, c0, a1, n1, c1, H, hn0, hn1, k0, k1, k2, s0, s1⟩ := h.open
 have HS := Lib.hid s0
 have HN := Lib.hid hn0
 rw [hn0] at hl
 clear h hn0 hn1 s0 s1 k1 k2
 go_enter Tryz.func221, Tryz.ntmps221
 go_wp2
 go_loopw [4, 5] (fun u4 u5 wr => ∃ (j m : Nat) (b : Option Addr) (cc : Nat), j ≤ n0 ∧ u5 = .int .i64 j ∧ u4 = .slice b m cc ∧ m ≤ j ∧ Hid (m = (cutS (B.take j) key).length) ∧ Hid (GoneC w wr (.slice b m cc) (cutS (B.take j) key)) ∧ Fr [] w wr) (fun _ u5 _ => n0 - (intOf u5).toNat)
 case atStart => exact ⟨0, 0, none, 0, by omega, rfl, rfl, by omega, rfl, GoneC.nil _ _, Fr.refl _ _⟩
 case round =>
  obtain ⟨j, m, b, cc, hj, rfl, rfl, hm, hM, hG, hf⟩ := hrel
  have k0 : wr.cell? ⟨e, 0, none⟩ = some (.slice a0 n0 c0) := by obtain ⟨V, hv, _⟩ := H.out; exact (hv.c0 hf 0).1.trans k0
  by_cases hlt : j < n0
  ·have hjl : j < B.length := by rw [HN.out]; exact hlt
   obtain ⟨g, o, rfl, x0, x1⟩ := cell13_at (Sl.fr HS.out hf (fun _ _ => by simp)) hjl
   have hsn := cutS_snoc B key j hjl
   obtain ⟨⟨k, is⟩, hk⟩ : ∃ k, B[j] = k := ⟨_, rfl⟩
   rw [hk] at x0 x1 hsn
   simp only at x0 x1 hsn
   have q1 : (j : Int) < (n0 : Int) := by omega
   clear hk
   by_cases eq : k = key
   ·have b9 := str_eq_t eq
    have HSN2 : Hid (cutS (B.take (j + 1)) key = cutS (B.take j) key) := by rw [if_pos eq, List.append_nil] at hsn; exact hsn
    clear eq hsn
    go_wp2
    exact ⟨⟨j + 1, m, _, cc, by omega, by go_num, rfl, by omega, by show _ = _; rw [HSN2.out]; exact hM.out, by show GoneC _ _ _ _; rw [HSN2.out]; exact hG.out, hf⟩, by simp [intOf]; omega⟩
   ·have b9 := str_ne_f eq
    have HSN2 : Hid (cutS (B.take (j + 1)) key = cutS (B.take j) key ++ [(k, is)]) := by rw [if_neg eq] at hsn; exact hsn
    clear eq hsn
    go_wp2_with (at_builtin; refine wpList_app rfl _ _ _ _ rfl Tryz.underlying156 hii hz0 hz1 hz2 rfl (.slice b m cc) (.slice (some ⟨wr.heap.size, 0, none⟩) 1 1) m 1 (cellR13 (cutS (B.take j) key)).xs [.string k, .int .u8 (is : Nat)] rfl rfl ?hsl (oneC13 _) ?src ?c3 ?c4 _ rfl ?_)
    case hsl => exact RowAt.cellN (hG.out.fr0 ((Fr.refl [] _).alloc _)).1 hM.out.symm
    case src => exact Src.built Tryz.underlying156 wr [.string k, .int .u8 (is : Nat)] _ _ rfl rfl (by simp [Value.oneCell'])
    case c3 => unfold maxLen; omega
    case c4 => omega
    intro b' cp w4 ha1 ha2 ha3
    obtain ⟨g1, g2⟩ := (hG.out.fr0 ((Fr.refl [] _).alloc _)).app (hf.alloc _) (cell13_snoc (x := (k, is)) (by rw [← hM.out]) ha1) ha2 (ha3.imp id fun z => by rw [World.size_alloc]; exact z)
    have G1 := Lib.hid g1
    clear ha1 ha2 ha3 g1
    go_wp2
    exact ⟨⟨j + 1, m + 1, b', cp, by omega, by go_num, rfl, by omega, by show _ = _; rw [HSN2.out, List.length_append, ← hM.out]; rfl, by show GoneC _ _ _ _; rw [HSN2.out]; exact G1.out, g2⟩, by simp [intOf]; omega⟩
  ·have : j = n0 := by omega
   subst this
   have e9 : B.take j = B := by rw [← HN.out]; exact List.take_length
   have hg := hG.out
   rw [e9] at hg
   have HR : Hid (R13Go w e F (cutS B key) q c (wr.setCell ⟨e, 0, none⟩ (.slice b m cc))) := by
    obtain ⟨V, hv, _⟩ := H.out
    exact RG.r13 (RV.cutX (i := 0) hv (by decide) hf hg.1 hg.2) (XL_up0 _ _ _)
   have kf : wr.frozen? ⟨e, 0, none⟩ = false := by obtain ⟨V, hv, _⟩ := H.out; exact (hv.c0 hf 0).2
   clear hg e9
   go_wp2
   go_end0
   exact ⟨rfl, HR.out⟩
set_option maxHeartbeats 1000000 in
set_option maxRecDepth 100000 in
theorem r13top (h : R13 w e F B q c) (hl : B.length ≤ 100000) (key : ByteArray) (is : Nat) : Calls Tryz.prog 184 #[ptr e, .string key, .int .u8 (is : Nat)] w fun en w' => en = .returned (.tuple #[]) ∧ R13Go w e F (cutS B key ++ [(key, is)]) q c w' := by
 obtain ⟨i0, hii, hz0, hz1, hz2⟩ := info_parts2 infoC13
 have HO := Lib.hid (r13out h hl key)
 have HL : Hid ((cutS B key).length ≤ 100000) := Nat.le_trans (List.length_filter_le _ _) hl
 generalize cutS B key = B1 at HO HL ⊢
 clear h
 go_enter Tryz.func184, Tryz.ntmps184
 go_wp2_with fail
 refine HO.out.mono ?_
 rintro en w3 ⟨rfl, F1, h1, s1, t1⟩
 have HST := Lib.hid (And.intro s1 t1)
 obtain ⟨a0, n0, c0, a1, n1, c1, H, hn0, hn1, k0, k1, k2, s0, s1'⟩ := h1.open
 have HS := Lib.hid s0
 have HN := Lib.hid hn0
 have hb : n0 ≤ 100000 := by rw [← hn0]; exact HL.out
 clear s1 t1 h1 hn0 hn1 s0 s1' k1 k2 HO
 go_wp2_with (at_builtin; refine wpList_app rfl _ _ _ _ rfl Tryz.underlying156 hii hz0 hz1 hz2 rfl (.slice a0 n0 c0) (.slice (some ⟨w3.heap.size, 0, none⟩) 1 1) n0 1 (cellR13 B1).xs [.string key, .int .u8 (is : Nat)] rfl rfl ?hsl (oneC13 _) ?src ?c3 ?c4 _ rfl ?_)
 case hsl => exact Sl.fr (RowAt.cellN HS.out HN.out) ((Fr.refl [] _).alloc _) (fun _ _ => by simp)
 case src => exact Src.built Tryz.underlying156 w3 [.string key, .int .u8 (is : Nat)] _ _ rfl rfl (by simp [Value.oneCell'])
 case c3 => unfold maxLen; omega
 case c4 => omega
 intro b' cp w4 ha1 ha2 ha3
 obtain ⟨V, hv, hv0, _⟩ := H.out
 have hfz := RV.appX (i := 0) (v' := .slice b' (n0 + 1) cp) (r := cellR13 (B1 ++ [(key, is)])) hv (by decide) ((Fr.refl [] w3).alloc _) (cell13_snoc (x := (key, is)) (by rw [HN.out]) ha1) (by rw [hv0]; exact ha2) (by rw [hv0]; exact ha3.imp id fun z => by rw [World.size_alloc]; exact z)
 have p1 := hfz.2.1.trans k0
 have y1 := hfz.2.2
 have HR : Hid (R13Go w e F (B1 ++ [(key, is)]) q c (w4.setCell ⟨e, 0, none⟩ (.slice b' (n0 + 1) cp))) := RG.r13 (RG.trans HST.out.1 HST.out.2 hfz.1) (XL_up0 _ _ _)
 clear hfz ha1 ha2 ha3 k0 hv hv0
 go_wp2
 go_end0
 exact ⟨rfl, HR.out⟩
end
end Go.Proofs.YtfeicmpbfbhiiaaGreat
