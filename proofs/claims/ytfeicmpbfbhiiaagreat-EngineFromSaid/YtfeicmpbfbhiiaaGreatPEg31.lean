/- Texts of a proof about the given program, those parts that this claim reaches. -/
import Derived.Test.YtfeicmpbfbhiiaaGreatPEg30
import Derived.Test.YtfeicmpbfbhiiaaGreatPEg25
set_option linter.unusedVariables false
set_option linter.unusedSimpArgs false
namespace Go.Proofs.YtfeicmpbfbhiiaaGreat
open Go.RowKit
attribute [local go_sem ↓] Go.wp_at_zero Go.wp_at_succ
/-- How long the slice in a cell is. -/
def cellN (w : World) (e i : Nat) : Nat := match w.cell? ⟨e, i, none⟩ with | some (.slice _ n _) => n | _ => 0
theorem cellN_of {w : World} {e i n : Nat} {a : Option Addr} {c : Nat} (h : w.cell? ⟨e, i, none⟩ = some (.slice a n c)) : cellN w e i = n := by unfold cellN; rw [h]
def prB (B : Stk) : Stk := B.dropWhile fun e => decide (e.2 ≠ 104)
theorem prB_drop : ∀ {B : Stk} {j : Nat}, (∀ x, x ∈ B.take j → x.2 ≠ 104) → (∀ x, (B.drop j).head? = some x → x.2 = 104) → prB B = B.drop j
 | [], j, _, _ => by simp [prB]
 | x :: B, 0, _, h => by
  have := h x rfl
  simp [prB, List.dropWhile_cons, this]
 | x :: B, j + 1, h1, h2 => by
  have hx := h1 x (by simp)
  have ih := prB_drop (B := B) (j := j) (fun y hy => h1 y (by simp [hy])) h2
  unfold prB at ih ⊢
  rw [List.dropWhile_cons, if_pos (by simpa using hx)]
  exact ih
theorem tailC {w : World} {a : Option Addr} {n c : Nat} {x : ByteArray × Nat} {l : Stk} (h : RowAt w (.slice a n c) (cellR13 (x :: l))) :
  ∃ a2 c2, (∀ w', (Instr.slice 156 (.slice a n c) (some (.int .i64 1)) none none).run Tryz.prog w' = .ok (.slice a2 (n - 1) c2) w') ∧ RowAt w (.slice a2 (n - 1) c2) (cellR13 l) ∧ n = l.length + 1 := by
 obtain ⟨i0, hii, hz0, hz1, hz2⟩ := info_parts2 infoC13
 obtain ⟨g, o, d, hv, _⟩ := Sl.pos h (by simp)
 simp at hv
 obtain ⟨rfl, hn, rfl⟩ := hv
 have hn2 : n = l.length + 1 := by simpa using hn
 subst hn2
 have hs := Sl.slice (lo := 1) (hi := l.length + 1) h (by omega) (Nat.le_refl _)
 have hrun := fun w' => run_slice_from (P := Tryz.prog) Tryz.underlying156 hii (some (⟨g, o, none⟩ : Addr)) (l.length + 1) c 1 (by omega) w'
 rw [hz1] at hrun
 refine ⟨_, _, fun w' => by simpa using hrun w', ?_, rfl⟩
 have e2 : List.take ((l.length + 1 - 1) * 2) (List.drop (1 * 2) (cellR13 (x :: l)).xs) = (cellR13 l).xs := by
  simp only [List.flatMap_cons, Nat.add_sub_cancel]
  show List.take (l.length * 2) ((cellR13 l).xs) = _
  refine List.take_of_length_le ?_
  exact Nat.le_of_eq (flat_len (f := fun x : ByteArray × Nat => [Value.string x.1, Value.int .u8 (x.2 : Nat)]) (s := 2) (fun _ => rfl) l)
 rw [e2] at hs
 show Sl _ _ _ _ l.length _
 simpa using hs
theorem GoneC.empty (W w : World) (h : W.heap.size ≤ w.heap.size) : GoneC W (w.alloc (.cells #[] 160)) (.slice (some ⟨w.heap.size, 0, none⟩) 0 0) [] := ⟨Sl.built (size := 2) (e := 160) w #[] 0 rfl (by decide), by intro b hb; simp [Value.ownBlock] at hb; omega⟩
section
variable {w w' w1 w2 : World} {e c : Nat} {F G : List Nat} {B : Stk} {q : List ByteArray}
set_option maxHeartbeats 1000000 in
set_option maxRecDepth 100000 in
theorem r13prune (h : R13 w e F B q c) (hl : B.length ≤ 100000) : Calls Tryz.prog 185 #[ptr e] w fun en w' => en = .returned (.tuple #[]) ∧ R13Go w e F (prB B) q c w' := by
 obtain ⟨i0, hii, hz0, hz1, hz2⟩ := info_parts2 infoC13
 have H0 : Hid (R13Go w e F B q c w) := ⟨F, h, Sub.refl _ _, Fr.refl _ _⟩
 clear h
 go_enter Tryz.func185, Tryz.ntmps185
 go_wp2_with fail
 go_loopw [] (fun wr => ∃ j : Nat, j ≤ B.length ∧ Hid (∀ x, x ∈ B.take j → x.2 ≠ 104) ∧ Hid (R13Go w e F (B.drop j) q c wr)) (fun wr => cellN wr e 0)
 case atStart => exact ⟨0, Nat.zero_le _, fun x hx => (by simp at hx), by rw [List.drop_zero]; exact H0.out⟩
 case round =>
  obtain ⟨j, hj, hno, hG⟩ := hrel
  obtain ⟨F1, h1, s1, t1⟩ := hG.out
  have HST := Lib.hid (And.intro s1 t1)
  obtain ⟨a0, n0, c0, a1, n1, c1, H, hn0, hn1, k0, k1, k2, s0, s1'⟩ := h1.open
  have hcn := cellN_of k0
  rw [List.length_drop] at hn0
  have hlt := h1.lt
  have zl : e < wr.heap.size := by obtain ⟨V, hv, _⟩ := H.out; exact lt_of_block hv.b.blk
  have zn : ¬ e = wr.heap.size := by omega
  have kf : wr.frozen? ⟨e, 0, none⟩ = false := by obtain ⟨V, hv, _⟩ := H.out; exact hv.fz 0
  clear s1 t1 h1 hn1 s1' k1 k2 hlt
  cases hd : B.drop j with
  | nil =>
   have hn : n0 = 0 := by have := congrArg List.length hd; rw [List.length_drop] at this; simp at this; omega
   have HE : Hid (prB B = B.drop j) := prB_drop hno.out (by rw [hd]; simp)
   subst hn
   clear hd s0
   go_wp2
   go_end0
   refine ⟨rfl, ?_⟩
   rw [HE.out]
   exact hG.out
  | cons x l =>
   rw [hd] at s0
   have hjl : j < B.length := by have := congrArg List.length hd; rw [List.length_drop] at this; simp at this; omega
   have hx : B[j] = x := by have := List.drop_eq_getElem_cons hjl; rw [hd] at this; exact (List.cons.inj this).1.symm
   have hl2 : B.drop (j + 1) = l := by have := List.drop_eq_getElem_cons hjl; rw [hd] at this; exact (List.cons.inj this).2.symm
   obtain ⟨a2, c2, hrun, ht, hnl⟩ := tailC s0
   obtain ⟨g, o, rfl, x0, x1⟩ := cell13_at (i := 0) s0 (by simp)
   obtain ⟨k, is⟩ := x
   simp only [List.getElem_cons_zero, Nat.zero_mul, Nat.add_zero] at x0 x1
   have q0 : (0 : Int) < (n0 : Int) := by omega
   by_cases eq : is = 104
   ·have HE : Hid (prB B = B.drop j) := prB_drop hno.out (by rw [hd]; simp; exact eq)
    subst eq
    clear hd s0 ht hrun hx hl2 hnl
    go_wp2
    go_end0
    refine ⟨rfl, ?_⟩
    rw [HE.out]
    exact hG.out
   ·have b9 : ((is : Int) != 104) = true := by rw [bne_iff_ne]; omega
    have b8 : ((is : Int) == 104) = false := by rw [beq_eq_false_iff_ne]; omega
    have HNO : Hid (∀ x, x ∈ B.take (j + 1) → x.2 ≠ 104) := fun y hy => by
     rw [List.take_add_one, List.getElem?_eq_getElem hjl] at hy
     rcases List.mem_append.1 hy with z | z
     ·exact hno.out y z
     ·simp only [Option.toList_some, List.mem_singleton] at z; rw [z, hx]; exact eq
    have HL2 := Lib.hid hl2
    have HT := Lib.hid ht
    obtain ⟨m, hm⟩ : ∃ m, n0 - 1 = m := ⟨_, rfl⟩
    rw [hm] at hrun HT
    have HNL : Hid (l.length = m) := by show _ = _; omega
    have hmb : m ≤ 100000 := by omega
    have hmn : m < n0 := by omega
    clear hd s0 ht hx hl2 hnl eq hm
    go_wp2_with (at_builtin; refine wpList_app rfl _ _ _ _ rfl Tryz.underlying156 hii hz0 hz1 hz2 rfl (.slice (some ⟨wr.heap.size, 0, none⟩) 0 0) (.slice a2 m c2) 0 m [] (cellR13 l).xs rfl rfl ?hsl (by simp) ?src ?c3 ?c4 _ rfl ?_)
    case hsl => exact (GoneC.empty wr wr (Nat.le_refl _)).1
    case src => exact Sl.src Tryz.underlying156 (Sl.fr (RowAt.cellN HT.out HNL.out) ((Fr.refl [] _).alloc _) (fun _ _ => by simp)) (oneC13 _)
    case c3 => unfold maxLen; omega
    case c4 => omega
    intro b' cp w4 ha1 ha2 ha3
    have ha1' : RowAt w4 (.slice b' m cp) (cellR13 l) := by
     show Sl _ _ _ _ l.length _
     rw [HNL.out]
     simpa using ha1
    obtain ⟨g1, g2⟩ := (GoneC.empty wr wr (Nat.le_refl _)).app ((Fr.refl [] _).alloc _) ha1' ha2 (ha3.imp id fun z => by rw [World.size_alloc]; exact z)
    obtain ⟨V, hv, _⟩ := H.out
    have p1 := (hv.c0 g2 0).1.trans k0
    have y1 := (hv.c0 g2 0).2
    have HR : Hid (RG 2 158 wr e F1 [] (up V 0 (.slice b' m cp)) (XL l q) [.int .i64 (c : Nat)] (w4.setCell ⟨e, 0, none⟩ (.slice b' m cp))) := by
     have := RV.cutX (i := 0) hv (by decide) g2 g1.1 g1.2
     rw [XL_up0] at this
     exact this
    clear ha1 ha2 ha3 ha1' g1 g2 k0 hv
    go_wp2
    refine ⟨⟨j + 1, hjl, HNO, ?_⟩, ?_⟩
    ·show R13Go _ _ _ _ _ _ _
     rw [HL2.out]
     exact RG.r13 (RG.trans HST.out.1 HST.out.2 HR.out) rfl
    ·obtain ⟨F3, r3, _, _⟩ := HR.out
     rw [hcn]
     exact Nat.lt_of_le_of_lt (Nat.le_of_eq (cellN_of (n := m) (r3.k (i := 0) (by decide)))) hmn
end
end Go.Proofs.YtfeicmpbfbhiiaaGreat
set_option linter.unusedVariables false
set_option linter.unusedSimpArgs false
namespace Go.Proofs.YtfeicmpbfbhiiaaGreat
open Go.RowKit
attribute [local go_sem ↓] Go.wp_at_zero Go.wp_at_succ
def isB (n : Nat) : Nat := match n with | 1 => 104 | 2 => 99 | 3 => 103 | _ => 0
theorem isB_hot (n : Nat) : isB n = 104 ↔ n = 1 := by unfold isB; split <;> simp_all
def stkB (S : Stk) : Stk := S.map fun x => (x.1, isB x.2)
theorem stkB_len (S : Stk) : (stkB S).length = S.length := by simp [stkB]
theorem stkB_cnt (S : Stk) : cntB (stkB S) 104 = cntS S 1 := by
 unfold cntB stkB cntS
 rw [List.countP_map]
 refine List.countP_congr fun x _ => ?_
 simp [isB_hot]
theorem stkB_cut (S : Stk) (key : ByteArray) : cutS (stkB S) key = stkB (cutS S key) := by
 unfold cutS stkB
 rw [List.filter_map]
 rfl
theorem stkB_app (S : Stk) (key : ByteArray) (n : Nat) : stkB S ++ [(key, isB n)] = stkB (S ++ [(key, n)]) := by simp [stkB]
theorem stkB_prune : ∀ S : Stk, prB (stkB S) = stkB (pruneS S)
 | [] => rfl
 | x :: S => by
  have ih := stkB_prune S
  unfold prB pruneS stkB at ih ⊢
  rw [List.map_cons, List.dropWhile_cons, List.dropWhile_cons]
  by_cases h : x.2 = 1
  ·have h2 : isB x.2 = 104 := (isB_hot _).2 h
   rw [if_neg (by simp [h2]), if_neg (by simp [h])]
   rfl
  ·have h2 : ¬ isB x.2 = 104 := fun z => h ((isB_hot _).1 z)
   rw [if_pos (by simp [h2]), if_pos (by simp [h])]
   exact ih
theorem stkB_is (S : Stk) (key : ByteArray) : isOf (stkB S) key = isB (stS S key) := by
 unfold isOf stkB stS
 rw [List.find?_map]
 have : ((fun e : ByteArray × Nat => decide (e.1 = key)) ∘ fun x : ByteArray × Nat => (x.1, isB x.2)) = fun e => decide (e.1 = key) := rfl
 rw [this]
 cases S.find? fun e => decide (e.1 = key) <;> rfl
/-- The document's engine of chapter 13. -/
def RE13 (w : World) (e : Nat) (F : List Nat) (s : Lirs) : Prop := s.Inv ∧ R13 w e F (stkB s.S) s.Q s.c
theorem Lirs.Inv.lens {s : Lirs} (h : s.Inv) : s.S.length ≤ 4000 ∧ s.Q.length ≤ 4000 := by
 have a := h.si.len
 have b := h.res
 have c := h.gh
 have d := h.c2
 omega
section
variable {w w' w1 w2 : World} {e : Nat} {F G : List Nat} {s : Lirs}
theorem RE13.reads (h : RE13 w e F s) (key : ByteArray) : Hid (∀ m, Calls Tryz.prog 171 #[ptr e, .string key] (w.drewN m) fun en w' => en = .returned (.bool (s.has key)) ∧ w' = w.drewN m) ∧ Hid (∀ m, Calls Tryz.prog 181 #[ptr e] (w.drewN m) fun en w' => en = .returned (.int .i64 (s.len : Nat)) ∧ ∃ q, w' = (w.drewN m).drewN q) := by
 have hl := h.1.lens
 refine ⟨fun m => ?_, fun m => ?_⟩
 ·have := r13has (h.2.fr0 ((Fr.refl [] w).drewN m)) (by rw [stkB_len]; omega) (by omega) key
  have e1 : decide (isOf (stkB s.S) key = 104 ∨ key ∈ s.Q) = s.has key := by unfold Lirs.has; rw [decide_eq_decide, stkB_is, isB_hot]
  rw [e1] at this
  exact this
 ·have := r13len (h.2.fr0 ((Fr.refl [] w).drewN m)) (by rw [stkB_len]; omega) (by omega)
  rw [stkB_cnt] at this
  exact this
set_option maxHeartbeats 1000000 in
set_option maxRecDepth 100000 in
theorem r13load_no (h : RE13 w e F s) (key : ByteArray) (hin : s.has key = true ∨ s.len = s.c) : Calls Tryz.prog 120 #[ptr e, .string key] w (StepRet RE13 w e F (.bool false) s) := by
 obtain ⟨HH, HL⟩ := h.reads key
 have HE := Lib.hid h
 obtain ⟨hi, V, h⟩ := h
 have k5 := h.kr 0 rfl
 generalize s.has key = b at *
 generalize s.len = n at *
 clear h hi
 cases b with
 | true =>
  go_enter Tryz.func120, Tryz.ntmps120
  go_wp2
  go_quiet (first | (go_at_call 171; exact Calls.quiet_of_same (HH.out _)))
  go_wp2
  go_ret
  exact ⟨rfl, F, ⟨HE.out.1, HE.out.2.fr0 ((Fr.refl [] w).drewN _)⟩, Sub.refl _ _, (Fr.refl _ w).drewN _⟩
 | false =>
  have hnc : n = s.c := by simpa using hin
  have q1 : (s.c : Int) ≤ (n : Int) := by omega
  have q2 : s.c ≤ n := by omega
  clear hin hnc
  go_enter Tryz.func120, Tryz.ntmps120
  go_wp2
  go_quiet (first | (go_at_call 171; exact Calls.quiet_of_same (HH.out _)) | (go_at_call 181; exact Calls.quiet_of (HL.out _)))
  go_wp2
  go_ret
  exact ⟨rfl, F, ⟨HE.out.1, HE.out.2.fr0 ((Fr.refl [] w).drewN _)⟩, Sub.refl _ _, (Fr.refl _ w).drewN _⟩
set_option maxHeartbeats 1000000 in
set_option maxRecDepth 100000 in
theorem r13load (h : RE13 w e F s) (key : ByteArray) (hz : key.size ≤ maxLen) : Calls Tryz.prog 120 #[ptr e, .string key] w (StepRet RE13 w e F (.bool (s.load key).1) (s.load key).2) := by
 have hinv := h.1.load hz
 unfold Lirs.load at hinv ⊢
 by_cases hin : s.has key = true ∨ s.len = s.c
 ·rw [if_pos hin]
  exact r13load_no h key hin
 rw [if_neg hin] at hinv ⊢
 have h1 : s.has key = false := by cases q : s.has key; rfl; exact absurd (.inl q) hin
 have h2 : s.len < s.c := by have := h.1.res; have : s.len ≠ s.c := fun q => hin (.inr q); unfold Lirs.len at *; omega
 clear hin
 have hi := h.1
 have hl := hi.lens
 obtain ⟨HH, HL⟩ := h.reads key
 have hno : ¬ (stS s.S key = 1 ∨ key ∈ s.Q) := by unfold Lirs.has at h1; simpa using h1
 have hQ : cutQ s.Q key = s.Q := cutQ_not (fun z => hno (.inr z))
 rw [h1] at HH
 have HCN := Lib.hid fun m => r13count (h.2.fr0 ((Fr.refl [] w).drewN m)) (by rw [stkB_len]; omega) 104
 have HMO := Lib.hid fun m => r13most (h.2.fr0 ((Fr.refl [] w).drewN m)) hi.c1 hi.c2
 have HTOP := Lib.hid fun m is => r13top (h.2.fr0 ((Fr.refl [] w).drewN m)) (by rw [stkB_len]; omega) key is
 have HLC : Hid ((cutS (stkB s.S) key).length ≤ 4000) := Nat.le_trans (List.length_filter_le _ _) (by rw [stkB_len]; omega)
 rw [stkB_cnt] at HCN
 obtain ⟨hi', V, h'⟩ := h
 have k5 := h'.kr 0 rfl
 have hmost : s.most = s.c - max 1 (s.c / 10) := rfl
 rw [← hmost] at HMO
 have hht : cntS s.S 1 < s.most → s.heats key = s.heats1 key := fun hlt => by
  unfold Lirs.heats
  rw [if_neg]
  have : cntS (s.heats1 key).S 1 ≤ cntS s.S 1 + 1 := by
   show cntS (cutS s.S key ++ [(key, 1)]) 1 ≤ _
   have := cntS_cut_le s.S key 1
   unfold cntS at *
   rw [List.countP_append]
   simp
   exact this
  omega
 generalize hs : s.len = n at *
 have q1 : decide (s.c ≤ n) = false := decide_eq_false (by omega)
 have q2 : (n : Int) < (s.c : Int) := by omega
 have hcb : cntS s.S 1 ≤ 4000 := Nat.le_trans List.countP_le_length hl.1
 by_cases hlt : cntS s.S 1 < s.most
 ·rw [if_pos hlt, hht hlt] at hinv ⊢
  have HI := Lib.hid hinv
  have HE : Hid (prB (cutS (stkB s.S) key ++ [(key, 104)]) = stkB ((s.heats1 key).prunes).S ∧ s.Q = ((s.heats1 key).prunes).Q) := by
   refine ⟨?_, hQ.symm⟩
   rw [stkB_cut, show (104 : Nat) = isB 1 from rfl, stkB_app, stkB_prune]
   rfl
  have HC9 : Hid (((s.heats1 key).prunes).c = s.c) := rfl
  generalize (s.heats1 key).prunes = s9 at *
  have q3 : ((cntS s.S 1 : Nat) : Int) < (s.most : Int) := by omega
  generalize s.most = mo at *
  generalize cntS s.S 1 = ct at *
  clear h' hi hi' hno hQ hs h1 h2 hl hht hinv hmost hlt
  go_enter Tryz.func120, Tryz.ntmps120
  go_wp2
  go_quiet (first | (go_at_call 171; exact Calls.quiet_of_same (HH.out _)) | (go_at_call 181; exact Calls.quiet_of (HL.out _)))
  go_wp2_with fail
  refine (HCN.out _).mono ?_
  rintro en wq ⟨rfl, rfl⟩
  go_wp2_with fail
  refine (HMO.out _).mono ?_
  rintro en wq ⟨rfl, m2, rfl⟩
  go_wp2_with fail
  refine (HTOP.out _ 104).mono ?_
  rintro en w3 ⟨rfl, F3, h3, s3, t3⟩
  have HST : Hid (Sub F3 F w ∧ Fr F w w3) := ⟨s3.old (Nat.le_refl _), ((Fr.refl F w).drewN _).same t3⟩
  have HPR := Lib.hid (r13prune h3 (by have := HLC.out; simp only [List.length_append, List.length_singleton]; omega))
  clear h3 s3 t3 HTOP HCN HMO
  go_wp2_with fail
  refine HPR.out.mono ?_
  rintro en w4 ⟨rfl, h4⟩
  have HR : Hid (∃ F', RE13 w4 e F' s9 ∧ Sub F' F w ∧ Fr F w w4) := by
   obtain ⟨F4, a, b, d⟩ := R13Go.trans HST.out.1 HST.out.2 h4
   rw [HE.out.1, HE.out.2, ← HC9.out] at a
   exact ⟨F4, ⟨HI.out, a⟩, b, d⟩
  clear h4
  go_wp2
  go_ret
  exact ⟨rfl, HR.out⟩
 ·rw [if_neg hlt] at hinv ⊢
  have HI := Lib.hid hinv
  have HE : Hid (prB (cutS (stkB s.S) key ++ [(key, 99)]) = stkB ((s.chills key).prunes).S ∧ s.Q ++ [key] = ((s.chills key).prunes).Q) := by
   refine ⟨?_, ?_⟩
   ·rw [stkB_cut, show (99 : Nat) = isB 2 from rfl, stkB_app, stkB_prune]
    rfl
   ·show _ = cutQ s.Q key ++ [key]
    rw [hQ]
  have HC9 : Hid (((s.chills key).prunes).c = s.c) := rfl
  have HQL : Hid (s.Q.length ≤ 4000) := hl.2
  generalize (s.chills key).prunes = s9 at *
  have q3 : ((s.most : Nat) : Int) ≤ (cntS s.S 1 : Nat) := by omega
  have q4 : decide (cntS s.S 1 < s.most) = false := decide_eq_false hlt
  generalize s.most = mo at *
  generalize cntS s.S 1 = ct at *
  clear h' hi hi' hno hQ hs h1 h2 hl hht hinv hmost hlt
  go_enter Tryz.func120, Tryz.ntmps120
  go_wp2
  go_quiet (first | (go_at_call 171; exact Calls.quiet_of_same (HH.out _)) | (go_at_call 181; exact Calls.quiet_of (HL.out _)))
  go_wp2_with fail
  refine (HCN.out _).mono ?_
  rintro en wq ⟨rfl, rfl⟩
  go_wp2_with fail
  refine (HMO.out _).mono ?_
  rintro en wq ⟨rfl, m2, rfl⟩
  go_wp2_with fail
  refine (HTOP.out _ 99).mono ?_
  rintro en w3 ⟨rfl, F3, h3, s3, t3⟩
  have HST : Hid (Sub F3 F w ∧ Fr F w w3) := ⟨s3.old (Nat.le_refl _), ((Fr.refl F w).drewN _).same t3⟩
  obtain ⟨a0, n0, c0, a1, n1, c1, H, hn0, hn1, k0, k1, k2, s0, s1⟩ := h3.open
  have HS := Lib.hid s1
  clear h3 s3 t3 HTOP HCN HMO hn0 hn1 s0 s1 k0 k2
  go_wp2_with (at_builtin; refine app_list rfl _ _ rfl (.slice a1 n1 c1) (.slice (some ⟨w3.heap.size, 0, none⟩) 1 1) s.Q [key] rfl rfl ?hsl ?src ?hb ?_)
  case hsl => exact SS.fr0 HS.out ((Fr.refl [] _).alloc _)
  case src => exact SS.src (SS.one w3 key)
  case hb => have := HQL.out; show _ + 1 ≤ _; omega
  intro b' n' c' w4 hn' happ
  obtain ⟨V3, hv, hv0, hv1⟩ := H.out
  have happ' : AppS (w3.alloc (.cells #[.string key] 9)) (V3 1) (s.Q ++ [key]) (.slice b' n' c') w4 := by rw [hv1]; exact happ
  have p1 := (RV.c1 (i := 1) hv (by decide) ((Fr.refl [] _).alloc _) happ' 1).1.trans k1
  have y1 := (RV.c1 (i := 1) hv (by decide) ((Fr.refl [] _).alloc _) happ' 1).2
  have HR1 : Hid (R13Go w e F (cutS (stkB s.S) key ++ [(key, 99)]) (s.Q ++ [key]) s.c (w4.setCell ⟨e, 1, none⟩ (.slice b' n' c'))) := by
   refine RG.r13 (RG.trans HST.out.1 HST.out.2 (RV.app (i := 1) hv (by decide) ((Fr.refl [] _).alloc _) happ')) ?_
   funext i
   match i with
   | 0 => rw [up_other _ _ _ _ (by decide)]; rfl
   | 1 => rw [up_same]; rfl
   | i + 2 => rw [up_other _ _ _ _ (by omega)]; rfl
  clear happ happ' hn' hv hv0 hv1 k1
  go_wp2_with fail
  obtain ⟨F5, h5, s5, t5⟩ := HR1.out
  refine (r13prune h5 (by have := HLC.out; simp only [List.length_append, List.length_singleton]; omega)).mono ?_
  rintro en w6 ⟨rfl, h6⟩
  have HR : Hid (∃ F', RE13 w6 e F' s9 ∧ Sub F' F w ∧ Fr F w w6) := by
   obtain ⟨F4, a, b, d⟩ := R13Go.trans s5 t5 h6
   rw [HE.out.1, HE.out.2, ← HC9.out] at a
   exact ⟨F4, ⟨HI.out, a⟩, b, d⟩
  clear h5 s5 t5 h6
  go_wp2
  go_ret
  exact ⟨rfl, HR.out⟩
end
end Go.Proofs.YtfeicmpbfbhiiaaGreat
set_option linter.unusedVariables false
set_option linter.unusedSimpArgs false
namespace Go.Proofs.YtfeicmpbfbhiiaaGreat
open Go.RowKit
attribute [local go_sem ↓] Go.wp_at_zero Go.wp_at_succ
theorem RE10.at (w : World) (room v : Int) (hv : (roomN room : Int) = v) : RE10 (w.alloc (.cells #[.slice none 0 0, .slice none 0 0, .slice none 0 0, .slice none 0 0, .int .i64 0, .int .i64 v] 155)) w.heap.size [w.heap.size] (Arc.new room) := by
 subst hv
 exact ⟨Arc.Inv.new room, _, RV.fresh 4 _ w _ _ (fun i hi => ⟨rfl, rfl⟩) (by simp [Value.ownBlock]) _ rfl⟩
theorem RE11.at (w : World) (room v : Int) (hv : (roomN room : Int) = v) : RE11 (w.alloc (.cells #[.slice none 0 0, .slice none 0 0, .slice none 0 0, .int .i64 v] 163)) w.heap.size [w.heap.size] (Twoq.new room) := by
 subst hv
 exact ⟨Twoq.Inv.new room, _, RV.fresh 3 _ w _ _ (fun i hi => ⟨rfl, rfl⟩) (by simp [Value.ownBlock]) _ rfl⟩
theorem RE12.at (w : World) (room v : Int) (hv : (roomN room : Int) = v) : RE12 (w.alloc (.cells #[.slice none 0 0, .slice none 0 0, .slice none 0 0, .int .i64 v] 171)) w.heap.size [w.heap.size] (S3.new room) := by
 subst hv
 refine ⟨S3.Inv.new room, _, RV.fresh 3 _ w _ _ (fun i hi => ?_) (by simp [Value.ownBlock]) _ rfl⟩
 match i, hi with
 | 0, _ => exact ⟨rfl, rfl⟩
 | 1, _ => exact ⟨rfl, rfl⟩
 | 2, _ => exact ⟨rfl, rfl⟩
theorem RE13.at (w : World) (room v : Int) (hv : (roomN room : Int) = v) : RE13 (w.alloc (.cells #[.slice none 0 0, .slice none 0 0, .int .i64 v] 158)) w.heap.size [w.heap.size] (Lirs.new room) := by
 subst hv
 refine ⟨Lirs.Inv.new room, _, RV.fresh 2 _ w _ _ (fun i hi => ?_) (by simp [Value.ownBlock]) _ rfl⟩
 match i, hi with
 | 0, _ => exact ⟨rfl, rfl⟩
 | 1, _ => exact ⟨rfl, rfl⟩
set_option maxRecDepth 100000 in
theorem r10new (w : World) (room : Int) : Calls Tryz.prog 97 #[.int .i64 room] w (NewRet RE10 w (Arc.new room)) := by
 have H := Lib.hid fun v hv => RE10.at w room v hv
 rcases Int.lt_or_le 1024 room with h | h
 ·have HC : Hid ((roomN room : Int) = 1024) := by show _ = _; unfold roomN; omega
  have h1 : 1 < room := by omega
  go_enter Tryz.func97, Tryz.ntmps97
  go_wp2
  go_ret
  exact ⟨_, _, rfl, H.out _ HC.out, by intro b hb; simp at hb; omega, (Fr.refl _ _).alloc _⟩
 rcases Int.lt_or_le room 1 with h' | h'
 ·have HC : Hid ((roomN room : Int) = 1) := by show _ = _; unfold roomN; omega
  go_enter Tryz.func97, Tryz.ntmps97
  go_wp2
  go_ret
  exact ⟨_, _, rfl, H.out _ HC.out, by intro b hb; simp at hb; omega, (Fr.refl _ _).alloc _⟩
 ·have HC : Hid ((roomN room : Int) = room) := by show _ = _; unfold roomN; omega
  go_enter Tryz.func97, Tryz.ntmps97
  go_wp2
  go_ret
  exact ⟨_, _, rfl, H.out _ HC.out, by intro b hb; simp at hb; omega, (Fr.refl _ _).alloc _⟩
set_option maxRecDepth 100000 in
theorem r11new (w : World) (room : Int) : Calls Tryz.prog 99 #[.int .i64 room] w (NewRet RE11 w (Twoq.new room)) := by
 have H := Lib.hid fun v hv => RE11.at w room v hv
 rcases Int.lt_or_le 1024 room with h | h
 ·have HC : Hid ((roomN room : Int) = 1024) := by show _ = _; unfold roomN; omega
  have h1 : 1 < room := by omega
  go_enter Tryz.func99, Tryz.ntmps99
  go_wp2
  go_ret
  exact ⟨_, _, rfl, H.out _ HC.out, by intro b hb; simp at hb; omega, (Fr.refl _ _).alloc _⟩
 rcases Int.lt_or_le room 1 with h' | h'
 ·have HC : Hid ((roomN room : Int) = 1) := by show _ = _; unfold roomN; omega
  go_enter Tryz.func99, Tryz.ntmps99
  go_wp2
  go_ret
  exact ⟨_, _, rfl, H.out _ HC.out, by intro b hb; simp at hb; omega, (Fr.refl _ _).alloc _⟩
 ·have HC : Hid ((roomN room : Int) = room) := by show _ = _; unfold roomN; omega
  go_enter Tryz.func99, Tryz.ntmps99
  go_wp2
  go_ret
  exact ⟨_, _, rfl, H.out _ HC.out, by intro b hb; simp at hb; omega, (Fr.refl _ _).alloc _⟩
set_option maxRecDepth 100000 in
theorem r12new (w : World) (room : Int) : Calls Tryz.prog 101 #[.int .i64 room] w (NewRet RE12 w (S3.new room)) := by
 have H := Lib.hid fun v hv => RE12.at w room v hv
 rcases Int.lt_or_le 1024 room with h | h
 ·have HC : Hid ((roomN room : Int) = 1024) := by show _ = _; unfold roomN; omega
  have h1 : 1 < room := by omega
  go_enter Tryz.func101, Tryz.ntmps101
  go_wp2
  go_ret
  exact ⟨_, _, rfl, H.out _ HC.out, by intro b hb; simp at hb; omega, (Fr.refl _ _).alloc _⟩
 rcases Int.lt_or_le room 1 with h' | h'
 ·have HC : Hid ((roomN room : Int) = 1) := by show _ = _; unfold roomN; omega
  go_enter Tryz.func101, Tryz.ntmps101
  go_wp2
  go_ret
  exact ⟨_, _, rfl, H.out _ HC.out, by intro b hb; simp at hb; omega, (Fr.refl _ _).alloc _⟩
 ·have HC : Hid ((roomN room : Int) = room) := by show _ = _; unfold roomN; omega
  go_enter Tryz.func101, Tryz.ntmps101
  go_wp2
  go_ret
  exact ⟨_, _, rfl, H.out _ HC.out, by intro b hb; simp at hb; omega, (Fr.refl _ _).alloc _⟩
set_option maxRecDepth 100000 in
theorem r13new (w : World) (room : Int) : Calls Tryz.prog 98 #[.int .i64 room] w (NewRet RE13 w (Lirs.new room)) := by
 have H := Lib.hid fun v hv => RE13.at w room v hv
 rcases Int.lt_or_le 1024 room with h | h
 ·have HC : Hid ((roomN room : Int) = 1024) := by show _ = _; unfold roomN; omega
  have h1 : 1 < room := by omega
  go_enter Tryz.func98, Tryz.ntmps98
  go_wp2
  go_ret
  exact ⟨_, _, rfl, H.out _ HC.out, by intro b hb; simp at hb; omega, (Fr.refl _ _).alloc _⟩
 rcases Int.lt_or_le room 1 with h' | h'
 ·have HC : Hid ((roomN room : Int) = 1) := by show _ = _; unfold roomN; omega
  go_enter Tryz.func98, Tryz.ntmps98
  go_wp2
  go_ret
  exact ⟨_, _, rfl, H.out _ HC.out, by intro b hb; simp at hb; omega, (Fr.refl _ _).alloc _⟩
 ·have HC : Hid ((roomN room : Int) = room) := by show _ = _; unfold roomN; omega
  go_enter Tryz.func98, Tryz.ntmps98
  go_wp2
  go_ret
  exact ⟨_, _, rfl, H.out _ HC.out, by intro b hb; simp at hb; omega, (Fr.refl _ _).alloc _⟩
end Go.Proofs.YtfeicmpbfbhiiaaGreat
