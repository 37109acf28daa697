/- Package panel, walked: Resize, New, Epoch. -/
import Derived.Test.YtphlancijlljcaaGreatPanel2
import Derived.Test.YtphlancijlljcaaGreatReg
set_option linter.unusedVariables false
set_option linter.unusedSimpArgs false
namespace Go.Proofs.YtphlancijlljcaaGreat
open Go.RowKit
open Act renaming put → pE0
open List renaming getElem_toArray → pE1, getElem_cons_succ → pE2, getElem_cons_zero → pE3, setIfInBounds_toArray → pE4, set_cons_zero → pE5, set_cons_succ → pE6
attribute [local go_sem ↓] Go.wp_at_zero Go.wp_at_succ
def PaV (w : World) (p sp : Nat) (room : Int) (V : Nat → Value) : Prop := w.heap[p]? = some (.cells #[ptr sp, .int .i64 room, V 0, V 1, V 2, V 3, V 4] 115 (0, 0))
theorem PaV.set {w : World} {p sp : Nat} {room : Int} {V : Nat → Value} (h : PaV w p sp room V) (i : Nat) (hi : i < 5) (v : Value) : PaV (w.setCell ⟨p, 2 + i, none⟩ v) p sp room (up V i v) := by
 show _ = _
 rw [block_set_same h]
 match i, hi with
 | 0, _ | 1, _ | 2, _ | 3, _ | 4, _ => rfl
theorem PaV.at {w : World} {p sp : Nat} {room : Int} {V : Nat → Value} (h : PaV w p sp room V) (i : Nat) (hi : i < 5) : w.cell? ⟨p, 2 + i, none⟩ = some (V i) := by
 rw [cell_of_block h]
 match i, hi with
 | 0, _ | 1, _ | 2, _ | 3, _ | 4, _ => rfl
theorem PaV.room {w : World} {p sp : Nat} {room : Int} {V : Nat → Value} (h : PaV w p sp room V) (r : Int) : PaV (w.setCell ⟨p, 1, none⟩ (.int .i64 r)) p sp r V := by
 show _ = _
 rw [block_set_same h]; rfl
def NewSh (R : PRel) (k : Nat) (W : World) (en : Ending) (w' : World) : Prop := ∃ q F, en = .returned (.tuple #[ptr q, .int .i64 0]) ∧ R k w' q F ∧ Ge W.heap.size F ∧ Fr [] W w'
def NewSh2 (R : PRel) (k : Nat) (wr : World) (en : Ending) (w' : World) : Prop := ∃ q F, en = .returned (.tuple #[ptr q, .int .i64 0]) ∧ R k w' q F ∧ Ge wr.heap.size F ∧ Fr [] wr w'
/-- The first i shadows are made. -/
structure RzI (R : PRel) (w wr : World) (p sp rate all taken : Nat) (room : Int) (V : Nat → Value) (i : Nat) (P : Nat → Nat) (G : Nat → List Nat) : Prop where
 blk : PaV wr p sp room (fun k => if k < i then ptr (P k) else V k)
 smp : SaB wr sp rate all taken
 sh : ∀ k, k < i → R k wr (P k) (G k)
 ge : ∀ k, k < i → Ge w.heap.size (G k)
 d : ∀ a b, a < i → b < i → a ≠ b → Dis (G a) (G b)
 fr : Fr [p] w wr
section
variable {R : PRel} {w wr w1 w2 : World} {p sp rate all taken : Nat} {room : Int} {V : Nat → Value} {i : Nat} {P : Nat → Nat} {G : Nat → List Nat}
theorem RzI.fr0 (o : PROk R) (h : RzI R w wr p sp rate all taken room V i P G) (f : Fr [] wr w1) : RzI R w w1 p sp rate all taken room V i P G := by
 obtain ⟨h1, h2, h3, h4, h5, h6⟩ := h
 exact ⟨f.get h1 (by simp), f.get h2 (by simp), fun k hk => o.fr (h3 k hk) f (fun b _ => by simp), h4, h5, h6.same f.nil⟩
theorem RzI.next (o : PROk R) (h : RzI R w wr p sp rate all taken room V i P G) (hi : i < 5) (hp : p < w.heap.size) (hps : p ≠ sp) {q : Nat} {F : List Nat} (hq : R i w1 q F) (hg : Ge wr.heap.size F) (f : Fr [] wr w1) :
  RzI R w (w1.setCell ⟨p, 2 + i, none⟩ (ptr q)) p sp rate all taken room V (i + 1) (up P i q) (up G i F) := by
 have hsz := h.fr.size
 have hs2 := f.size
 obtain ⟨h1, h2, h3, h4, h5, h6⟩ := h.fr0 o f
 have hf : Fr [p] w1 (w1.setCell ⟨p, 2 + i, none⟩ (ptr q)) := (Fr.refl _ _).setCell (by simp) _
 have dp : ∀ {A : List Nat}, Ge w.heap.size A → Dis A [p] := fun hA b hb hx => by simp at hx; subst hx; have := hA b hb; omega
 have hF : Ge w.heap.size F := hg.mono hsz
 refine ⟨?_, hf.get h2 (by simpa using Ne.symm hps), fun k hk => ?_, fun k hk => ?_, fun a b ha hb hab => ?_, h6.same hf⟩
 ·have hb := h1.set i hi (ptr q)
  have e : up (fun k => if k < i then ptr (P k) else V k) i (ptr q) = fun k => if k < i + 1 then ptr (up P i q k) else V k := by
   funext k
   simp only [up]
   by_cases e : k = i
   ·subst e; simp
   ·by_cases e2 : k < i
    ·rw [if_neg e, if_pos e2, if_pos (by omega), if_neg e]
    ·rw [if_neg e, if_neg e2, if_neg (by omega)]
  rw [e] at hb
  exact hb
 ·by_cases e : k = i
  ·subst e; rw [up_same, up_same]; exact o.fr hq hf (dp hF)
  ·rw [up_other _ _ _ _ e, up_other _ _ _ _ e]; exact o.fr (h3 k (by omega)) hf (dp (h4 k (by omega)))
 ·by_cases e : k = i
  ·subst e; rw [up_same]; exact hF
  ·rw [up_other _ _ _ _ e]; exact h4 k (by omega)
 ·have hl : ∀ k, k < i → Lt (G k) wr := fun k hk => o.lt (h.sh k hk)
  by_cases e : a = i
  ·subst e
   rw [up_same, up_other _ _ _ _ (Ne.symm hab)]
   intro x hx hy
   have := hg x hx; have := hl b (by omega) x hy; omega
  ·rw [up_other _ _ _ _ e]
   by_cases e2 : b = i
   ·subst e2
    rw [up_same]
    intro x hx hy
    have := hg x hy; have := hl a (by omega) x hx; omega
   ·rw [up_other _ _ _ _ e2]; exact h5 a b (by omega) (by omega) hab
def RzRet (R : PRel) (w : World) (p sp rate all taken : Nat) (room : Int) (w' : World) : Prop := ∃ P G, PAt R w' p sp rate all taken room P G ∧ (∀ k, k < 5 → Ge w.heap.size (G k)) ∧ Fr [p] w w'
theorem RzI.done (h : RzI R w wr p sp rate all taken room V 5 P G) (hp : p < w.heap.size) (hs : sp < w.heap.size) (hps : p ≠ sp) : RzRet R w p sp rate all taken room wr := by
 obtain ⟨h1, h2, h3, h4, h5, h6⟩ := h
 exact ⟨P, G, ⟨h1, h2, h3, hps, fun k hk hb => by have := h4 k hk p hb; omega, fun k hk hb => by have := h4 k hk sp hb; omega, h5⟩, h4, h6⟩
set_option maxRecDepth 100000 in
theorem presize (o : PROk R) {room0 : Int} (hb : PaV w p sp room0 V) (hs : SaB w sp rate all taken) (hps : p ≠ sp) (hr : rate ≤ 16777216) (c : Int) (h0 : -9223372036854775808 ≤ c) (h1 : c ≤ 9223372036854775807)
  (hnew : ∀ k : Nat, k < 5 → ∀ W, Calls Tryz.prog 16 #[.int .i64 k, .int .i64 (roomS c rate : Nat)] W (NewSh R k W)) :
  Calls Tryz.prog 29 #[ptr p, .int .i64 c] w fun en w' => en = .returned (.tuple #[]) ∧ RzRet R w p sp rate all taken (roomS c rate : Nat) w' := by
 have k0 : w.cell? ⟨p, 0, none⟩ = some (ptr sp) := (cell_of_block hb 0).trans rfl
 have z := fun j => free_of_block hb j
 have k1 : w.cell? ⟨p, 1, none⟩ = some (.int .i64 room0) := (cell_of_block hb 1).trans rfl
 have hpl := lt_of_block hb
 have hsl := lt_of_block hs
 have HR := Lib.hid (saroom hs hr c h0 h1)
 obtain ⟨rm, hrm⟩ : ∃ rm, roomS c rate = rm := ⟨_, rfl⟩
 rw [hrm] at HR hnew ⊢
 have HN := Lib.hid hnew
 have HB := Lib.hid (And.intro hb (And.intro hs hps))
 clear hb hs hps hnew hrm hr
 go_enter Tryz.func29, Tryz.ntmps29
 go_wp2_with fail
 refine HR.out.mono ?_
 rintro en w1 ⟨rfl, hf1⟩
 have k1 := cell_fr hf1 k1 (by simp)
 have z1 := fun j => free_of_block (hf1.get HB.out.1 (by simp)) j
 have HI : Hid (RzI R w (w1.setCell ⟨p, 1, none⟩ (.int .i64 rm)) p sp rate all taken rm V 0 (fun _ => 0) (fun _ => [])) := by
  have hf2 : Fr [p] w1 (w1.setCell ⟨p, 1, none⟩ (.int .i64 rm)) := (Fr.refl _ _).setCell (by simp) _
  refine ⟨?_, hf2.get (hf1.get HB.out.2.1 (by simp)) (by simpa using Ne.symm HB.out.2.2), fun k hk => absurd hk (by omega), fun k hk => absurd hk (by omega), fun a b ha => absurd ha (by omega), (hf1.nil).same hf2⟩
  exact (show PaV w1 p sp room0 V from hf1.get HB.out.1 (by simp)).room rm
 clear hf1 k0 z
 go_wp2_with fail
 go_loopw [16] (fun u16 wr => ∃ (i : Nat) (P' : Nat → Nat) (G' : Nat → List Nat), i ≤ 5 ∧ u16 = .int .i64 i ∧ Hid (RzI R w wr p sp rate all taken rm V i P' G')) (fun u16 _ => 5 - (intOf u16).toNat)
 case atStart => exact ⟨0, _, _, by omega, rfl, HI.out⟩
 case round =>
  obtain ⟨i, P', G', hi, rfl, hp⟩ := hrel
  clear k1 z1
  by_cases hlt : i < 5
  ·have q1 : (i : Int) < 5 := by omega
   have q2 : (0 : Int) ≤ (i : Int) := by omega
   have hb := hp.out.blk
   have k1 : wr.cell? ⟨p, 1, none⟩ = some (.int .i64 rm) := (cell_of_block hb 1).trans rfl
   have z := fun j => free_of_block hb j
   have k2 : wr.cell? ⟨p, 2 + i, none⟩ = some (V i) := by rw [PaV.at hb i hlt, if_neg (by omega)]
   have HK : Hid (w.heap.size ≤ wr.heap.size) := hp.out.fr.size
   clear hb
   go_wp2_with fail
   refine wp_region_inv (fun j v w' => match j with | 0 => v = ptr p | 1 => v = .int .i64 i | 2 => v = .int .i64 i | 3 => v = ptr p | 4 => v = ptr p | 5 => v = .pointer (some ⟨p, 1, none⟩) | 6 => v = .int .i64 rm | 7 => ∃ q F, v = .tuple #[ptr q, .int .i64 0] ∧ R i w' q F ∧ Ge wr.heap.size F | 8 => ∃ q F, v = .tuple #[ptr q, .int .i64 0] ∧ R i w' q F ∧ Ge wr.heap.size F | 9 => ∃ q F, v = ptr q ∧ R i w' q F ∧ Ge wr.heap.size F | 11 => v = ptr p | 12 => v = .pointer (some ⟨p, 2, none⟩) | 13 => v = .pointer (some ⟨p, 2 + i, none⟩) | _ => True)
    (fun D w' => (w'.cell? ⟨p, 1, none⟩ = some (.int .i64 rm) ∧ wr.heap.size ≤ w'.heap.size ∧ ∀ j, w'.frozen? ⟨p, j, none⟩ = false) ∧ Hid (if D 14 = true then ∃ P'' G'', RzI R w w' p sp rate all taken rm V (i + 1) P'' G'' else Fr [] wr w')) (fun a b => Fr [p] a b) (by kernel_rfl) (by kernel_rfl) (by kernel_rfl) ?hst ⟨⟨k1, Nat.le_refl _, z⟩, (Fr.refl [] _).drew⟩ ?hops ?hfin
   case hst =>
    have hR : ∀ {a b : World} {q : Nat} {F : List Nat}, R i a q F → Ge wr.heap.size F → Fr [p] a b → R i b q F := fun h hg f => o.fr h f (fun x hx hb => by simp at hb; subst hb; have := hg x hx; have := HK.out; omega)
    intro j v a b h f
    split at h
    all_goals first | exact h | exact trivial | (obtain ⟨q, F, h1, h2, h3⟩ := h; exact ⟨q, F, h1, hR h2 h3 f, h3⟩)
   case hops =>
    repeat' (first | exact OpsOk.nil | refine OpsOk.cons ?_ ?_)
    all_goals try exact rgT
    ·skip
     intro D X w' K hD hS hI hK
     simp only [afterI, Region.binds, forall_const] at hI
     simp only [putL, pE0, pE1, pE4, pE5, pE6, Nat.reduceAdd, up, Nat.reduceEqDiff, if_true, if_false, reduceIte] at hK ⊢
     try simp only [hI] at hK
     go_simp
     refine (HN.out i hlt _).mono ?_
     rintro en w3 ⟨q, F, rfl, c1, c2, c3⟩
     refine hK.out _ _ ⟨q, F, rfl, c1, c2.mono hS.1.2.1⟩ ⟨⟨cell_fr c3 hS.1.1 (by simp), Nat.le_trans hS.1.2.1 c3.size, fun j => by rw [← hS.1.2.2 j]; exact c3.frozen (by simp) (by have := hp.out.fr.size; have := hS.1.2.1; omega)⟩, ?_⟩ c3.nil
     have hz := hS.2.out
     show if upd D 7 14 = true then _ else _
     by_cases h14 : D 14 = true
     ·rw [if_pos (show upd D 7 14 = true from h14)]
      rw [if_pos h14] at hz
      obtain ⟨P1, G1, hz⟩ := hz
      exact ⟨P1, G1, hz.fr0 o c3⟩
     ·rw [if_neg (show ¬ upd D 7 14 = true from h14)]
      rw [if_neg h14] at hz
      exact hz.same c3
    ·skip
     intro D X w' K hD hS hI hK
     simp only [afterI, Region.binds, forall_const] at hI
     simp only [putL, pE0, pE1, pE4, pE5, pE6, Nat.reduceAdd, up, Nat.reduceEqDiff, if_true, if_false, reduceIte] at hK ⊢
     try simp only [hI] at hK
     obtain ⟨⟨q, F, h1, h2, h3⟩, _⟩ := hI
     simp only [h1] at hK
     go_simp
     exact hK.out _ _ ⟨q, F, rfl, h2, h3⟩ hS (Fr.refl _ _)
    ·skip
     intro D X w' K hD hS hI hK
     simp only [afterI, Region.binds, forall_const] at hI
     simp only [putL, pE0, pE1, pE4, pE5, pE6, Nat.reduceAdd, up, Nat.reduceEqDiff, if_true, if_false, reduceIte] at hK ⊢
     try simp only [hI] at hK
     obtain ⟨⟨q, F, h1, h2, h3⟩, _⟩ := hI
     simp only [h1] at hK
     go_simp
     exact hK.out _ _ ⟨q, F, rfl, h2, h3⟩ hS (Fr.refl _ _)
    ·skip
     intro D X w' K hD hS hI hK
     simp only [afterI, Region.binds, forall_const] at hI
     simp only [putL, pE0, pE1, pE4, pE5, pE6, Nat.reduceAdd, up, Nat.reduceEqDiff, if_true, if_false, reduceIte] at hK ⊢
     try simp only [hI] at hK
     obtain ⟨⟨q, F, h1, h2, h3⟩, _⟩ := hI
     simp only [h1] at hK
     go_simp
     exact hK.out _ _ trivial hS (Fr.refl _ _)
    ·skip
     intro D X w' K hD hS hI hK
     simp only [afterI, Region.binds, forall_const] at hI
     simp only [putL, pE0, pE1, pE4, pE5, pE6, Nat.reduceAdd, up, Nat.reduceEqDiff, if_true, if_false, reduceIte] at hK ⊢
     try simp only [hI] at hK
     obtain ⟨_, ⟨q, F, h1, h2, h3⟩, _⟩ := hI
     simp only [h1] at hK
     have hz := hS.2.out
     rw [hD] at hz
     have k2 := cell_fr hz k2 (by simp)
     have HZ := Lib.hid hz
     clear hz
     go_simp
     refine hK.out undef _ trivial ⟨⟨by rw [World.cell?_setCell_other _ _ _ _ (by simp)]; exact hS.1.1, by simpa using hS.1.2.1, fun j => by rw [World.frozen?_setCell]; exact hS.1.2.2 j⟩, ?_⟩ ((Fr.refl _ _).setCell (by simp) _)
     show if true = true then _ else _
     rw [if_pos rfl]
     exact ⟨_, _, hp.out.next o hlt hpl HB.out.2.2 h2 h3 HZ.out⟩
   case hfin =>
    intro D X w' hS hD hI
    simp only [putL, pE0, pE1, pE4, pE5, pE6, Nat.reduceAdd]
    obtain ⟨P'', G'', hz⟩ : ∃ P'' G'', RzI R w w' p sp rate all taken rm V (i + 1) P'' G'' := by have := hS.2.out; rw [hD 14 (by decide)] at this; exact this
    have HS := Lib.hid hz
    clear hz hS hD hI k1 k2 z
    go_wp2_with fail
    exact ⟨⟨i + 1, _, _, by omega, by go_num, HS.out⟩, by simp [intOf]; omega⟩
  ·have : i = 5 := by omega
   subst this
   go_wp2
   go_end0
   exact ⟨rfl, hp.out.done hpl hsl HB.out.2.2⟩
def PNewShet (R : PRel) (w : World) (rate : Nat) (room : Int) (en : Ending) (w' : World) : Prop := ∃ p sp P G, en = .returned (ptr p) ∧ PAt R w' p sp rate 0 0 room P G ∧ Ge w.heap.size (paF p sp G) ∧ Fr [] w w'
set_option maxRecDepth 100000 in
theorem pnew (o : PROk R) (w : World) (rt c : Int) (r0 : -9223372036854775808 ≤ rt) (r1 : rt ≤ 9223372036854775807) (h0 : -9223372036854775808 ≤ c) (h1 : c ≤ 9223372036854775807)
  (hnew : ∀ k : Nat, k < 5 → ∀ W, Calls Tryz.prog 16 #[.int .i64 k, .int .i64 (roomS c (rateN rt) : Nat)] W (NewSh R k W)) :
  Calls Tryz.prog 22 #[.int .i64 rt, .int .i64 c] w (PNewShet R w (rateN rt) (roomS c (rateN rt) : Nat)) := by
 have HR := Lib.hid fun W p sp (hb : PaV W p sp 0 fun _ => .pointer none) (hs : SaB W sp (rateN rt) 0 0) (hps : p ≠ sp) => presize o hb hs hps (rateN_le rt) c h0 h1 hnew
 have HS := Lib.hid fun W => sanew W rt r0 r1
 obtain ⟨rm, hrm⟩ : ∃ rm, roomS c (rateN rt) = rm := ⟨_, rfl⟩
 obtain ⟨rn, hrn⟩ : ∃ rn, rateN rt = rn := ⟨_, rfl⟩
 rw [hrm] at HR ⊢
 rw [hrn] at HR HS ⊢
 clear hnew hrm hrn
 go_enter Tryz.func22, Tryz.ntmps22
 go_wp2_with fail
 refine (HS.out _).mono ?_
 rintro en w1 ⟨sp, rfl, hs, hsg, hf⟩
 have hsl := lt_of_block hs
 have ha := fun o => (Fr.refl [] w1).alloc o
 have HP := Lib.hid (HR.out (w1.alloc (.cells #[ptr sp, .int .i64 0, .pointer none, .pointer none, .pointer none, .pointer none, .pointer none] 115)) w1.heap.size sp (block_alloc_new _ _) ((ha _).get hs (by simp)) (by omega))
 have HF := Lib.hid (And.intro hsg hf)
 clear ha hs hsg hf
 go_wp2_with fail
 refine HP.out.mono ?_
 rintro en w2 ⟨rfl, P, G, hp, hg, hf2⟩
 have HE := Lib.hid (And.intro hp (And.intro hg hf2))
 clear hp hg hf2 HP
 go_wp2
 go_ret
 obtain ⟨hp, hg, hf2⟩ := HE.out
 have hz := HF.out.2.size
 refine ⟨w1.heap.size, sp, P, G, rfl, hp, ?_, (HF.out.2.alloc _).fresh hf2 (by intro b hb; simp at hb; subst hb; exact hz)⟩
 intro b hb
 rcases mem_paF.1 hb with rfl | rfl | ⟨i, hi, hb⟩
 ·exact hz
 ·exact HF.out.1
 ·have := hg i hi b hb; simp at this; omega
/-- The ghosts that are counted. -/
def GhV (w : World) (B : Nat) (C : Nat → Cts) (i : Nat) : Prop := ∃ V : Nat → Nat, w.heap[B]? = some (.cells #[.int .i64 (V 0), .int .i64 (V 1), .int .i64 (V 2), .int .i64 (V 3), .int .i64 (V 4)] 38 (0, 0)) ∧ ∀ k, k < i → V k = (C k).ghosts
theorem GhV.set {w : World} {B i : Nat} {C : Nat → Cts} (h : GhV w B C i) (hi : i < 5) : GhV (w.setCell ⟨B, i, none⟩ (.int .i64 ((C i).ghosts : Nat))) B C (i + 1) := by
 obtain ⟨V, hb, hv⟩ := h
 refine ⟨up V i (C i).ghosts, ?_, fun k hk => ?_⟩
 ·rw [block_set_same hb]
  match i, hi with
  | 0, _ | 1, _ | 2, _ | 3, _ | 4, _ => rfl
 ·by_cases e : k = i
  ·subst e; rw [up_same]
  ·rw [up_other _ _ _ _ e]; exact hv k (by omega)
theorem GhV.fr {w w' : World} {B i : Nat} {C : Nat → Cts} {F : List Nat} (h : GhV w B C i) (f : Fr F w w') (hn : B ∉ F) : GhV w' B C i := by
 obtain ⟨V, hb, hv⟩ := h
 exact ⟨V, f.get hb hn, hv⟩
def ghVal (C : Nat → Cts) : Value := .agg #[.int .i64 ((C 0).ghosts : Nat), .int .i64 ((C 1).ghosts : Nat), .int .i64 ((C 2).ghosts : Nat), .int .i64 ((C 3).ghosts : Nat), .int .i64 ((C 4).ghosts : Nat)]
set_option maxRecDepth 100000 in
theorem pepoch {R' : PRel} (o : PROk R) (o' : PROk R') {C : Nat → Cts} (H : PAt R w p sp rate all taken room P G)
  (hstep : ∀ k, k < 5 → ∀ w q F, R k w q F → Calls Tryz.prog 17 #[ptr q] w fun en w' => en = .returned (C k).val ∧ R' k w' q F ∧ Fr F w w') :
  Calls Tryz.prog 26 #[ptr p] w fun en w' => en = .returned (.tuple #[ghVal C, .int .i64 ((C 4).all : Nat)]) ∧ PaGo R' w p sp rate all taken room P (paF p sp G) w' := by
 have hpl := lt_of_block H.blk
 obtain ⟨k0, k1, k2, k3, k4, k5, k6⟩ := H.blk.cells
 have hlt := H.lt o
 have ha := fun x => (Fr.refl [] w).alloc x
 have HI := Lib.hid (H.fr o (ha (.cells #[.int .i64 0, .int .i64 0, .int .i64 0, .int .i64 0, .int .i64 0] 38)) (fun b _ => by simp))
 have HS := Lib.hid hstep
 have HX := Lib.hid (ix5 P)
 have HL := Lib.hid hlt
 unfold ghVal
 obtain ⟨g0, hg0⟩ : ∃ g, (C 0).ghosts = g := ⟨_, rfl⟩
 obtain ⟨g1, hg1⟩ : ∃ g, (C 1).ghosts = g := ⟨_, rfl⟩
 obtain ⟨g2, hg2⟩ : ∃ g, (C 2).ghosts = g := ⟨_, rfl⟩
 obtain ⟨g3, hg3⟩ : ∃ g, (C 3).ghosts = g := ⟨_, rfl⟩
 obtain ⟨g4, hg4⟩ : ∃ g, (C 4).ghosts = g := ⟨_, rfl⟩
 obtain ⟨ma, hma⟩ : ∃ g, (C 4).all = g := ⟨_, rfl⟩
 rw [hg0, hg1, hg2, hg3, hg4, hma]
 have HGS := Lib.hid (And.intro hg0 (And.intro hg1 (And.intro hg2 (And.intro hg3 (And.intro hg4 hma)))))
 clear H hstep ha hlt hg0 hg1 hg2 hg3 hg4 hma
 go_enter Tryz.func26, Tryz.ntmps26
 go_wp2_with fail
 obtain ⟨w1, hw1⟩ : ∃ w1, w.alloc (.cells #[.int .i64 0, .int .i64 0, .int .i64 0, .int .i64 0, .int .i64 0] 38) = w1 := ⟨_, rfl⟩
 rw [hw1] at HI
 have hz1 : w1.heap.size = w.heap.size + 1 := by rw [← hw1]; simp
 have HB : Hid (GhV w1 w.heap.size C 0) := ⟨fun _ => 0, by rw [← hw1]; exact block_alloc_new _ _, fun k hk => absurd hk (by omega)⟩
 have HF : Hid (Fr [] w w1) := by show Fr [] w w1; rw [← hw1]; exact (Fr.refl [] w).alloc _
 rw [hw1]
 clear hw1
 go_loopw [3, 14] (fun u3 u14 wr => ∃ (i m : Nat) (G' : Nat → List Nat), i ≤ 5 ∧ u14 = .int .i64 i ∧ u3 = .int .i64 m ∧ Hid (0 < i → m = (C (i - 1)).all) ∧ Hid (PAt (pmix R R' i) wr p sp rate all taken room P G') ∧ Hid (Sub (paF p sp G') (paF p sp G) w1) ∧ Hid (GhV wr w.heap.size C i) ∧ Fr (w.heap.size :: paF p sp G) w1 wr) (fun _ u14 _ => 5 - (intOf u14).toNat)
 case atStart => exact ⟨0, 0, G, by omega, rfl, rfl, fun h => absurd h (by omega), HI.out.mixed, Sub.refl _ _, HB.out, Fr.refl _ _⟩
 case round =>
  obtain ⟨i, m, G', hi, rfl, rfl, hm, hp, hs, hgv, hf⟩ := hrel
  have hnb : w.heap.size ∉ paF p sp G' := fun hb => by
   rcases hs.out _ hb with h | h
   ·have := HL.out _ h; omega
   ·omega
  by_cases hlt : i < 5
  ·have q1 : (i : Int) < 5 := by omega
   have q2 : (0 : Int) ≤ (i : Int) := by omega
   have hx := HX.out i hlt
   obtain ⟨c, hc⟩ : ∃ c, C i = c := ⟨_, rfl⟩
   have hC := HS.out i hlt wr (P i) (G' i) (hp.out.at hlt)
   rw [hc] at hC
   obtain ⟨ca, ch, cg⟩ := c
   unfold Cts.val at hC
   simp only at hC
   have HC := Lib.hid hC
   have HCC := Lib.hid hc
   clear hC hc
   go_wp2_with fail
   refine HC.out.mono ?_
   rintro en w3 ⟨rfl, c2, c3⟩
   obtain ⟨d1, d2, d3⟩ := PAt.step o o' hlt hp.out c2 (Sub.refl _ _) c3
   have hnb2 : w.heap.size ∉ G' i := fun hb => hnb (mem_paF.2 (.inr (.inr ⟨i, hlt, hb⟩)))
   have hg3 := hgv.out.fr c3 hnb2
   have z3 : ∀ j, w3.frozen? ⟨w.heap.size, j, none⟩ = false := by
    obtain ⟨V, hb, _⟩ := hg3
    exact fun j => free_of_block hb j
   have hb3 : w.heap.size < w3.heap.size := by
    obtain ⟨V, hb, _⟩ := hg3
    exact lt_of_block hb
   have D1 := Lib.hid (And.intro d1 hg3)
   have D2 : Hid (Sub (paF p sp (up G' i (G' i))) (paF p sp G) w1)   := hs.out.trans d2 hf.size
   have D3 : Hid (Fr (w.heap.size :: paF p sp G) w1 w3) := hf.trans d3 (fun _ h _ => h) (fun b hb hl => by
    rcases hs.out b hb with h | h
    ·simp [h]
    ·omega)
   clear d1 d2 d3 c2 c3 hg3 HC hx k0 k1 k2 k3 k4 k5 k6
   go_wp2_with fail
   have e0 : (w3.alloc (.cells #[.int .i64 ca, .int .i64 ch, .int .i64 cg] 29)).cell? ⟨w3.heap.size, 0, none⟩ = some (.int .i64 ca) := (cell_of_block (block_alloc_new w3 _) 0).trans rfl
   have e2 : (w3.alloc (.cells #[.int .i64 ca, .int .i64 ch, .int .i64 cg] 29)).cell? ⟨w3.heap.size, 2, none⟩ = some (.int .i64 cg) := (cell_of_block (block_alloc_new w3 _) 2).trans rfl
   have e4 : ∃ v : Nat, (w3.alloc (.cells #[.int .i64 ca, .int .i64 ch, .int .i64 cg] 29)).cell? ⟨w.heap.size, i, none⟩ = some (.int .i64 v) := by
    obtain ⟨V, hb, _⟩ := D1.out.2
    refine ⟨V i, ?_⟩
    rw [cell_of_block (block_alloc_old hb _) i]
    match i, hlt with
    | 0, _ | 1, _ | 2, _ | 3, _ | 4, _ => rfl
   obtain ⟨vi, e4⟩ := e4
   have e3 : ∀ j, (w3.alloc (.cells #[.int .i64 ca, .int .i64 ch, .int .i64 cg] 29)).frozen? ⟨w.heap.size, j, none⟩ = false := fun j => by
    obtain ⟨V, hb, _⟩ := D1.out.2
    exact free_of_block (block_alloc_old hb _) j
   have FA : Hid (Fr [] w3 (w3.alloc (.cells #[.int .i64 ca, .int .i64 ch, .int .i64 cg] 29))) := (Fr.refl [] _).alloc _
   clear z3
   generalize w3.alloc (.cells #[.int .i64 ca, .int .i64 ch, .int .i64 cg] 29) = w4 at *
   refine wp_region_inv (fun j v _ => match j with | 0 => v = .int .i64 i | 1 => v = .pointer (some ⟨w3.heap.size, 2, none⟩) | 2 => v = .int .i64 cg | 3 => v = .pointer (some ⟨w3.heap.size, 0, none⟩) | 4 => v = .int .i64 ca | 5 => v = .pointer (some ⟨w.heap.size, i, none⟩) | 7 => v = .int .i64 ca | _ => True)
    (fun D w' => (w'.cell? ⟨w3.heap.size, 0, none⟩ = some (.int .i64 ca) ∧ w'.cell? ⟨w3.heap.size, 2, none⟩ = some (.int .i64 cg) ∧ w'.cell? ⟨w.heap.size, i, none⟩ = some (.int .i64 (bif D 6 then (cg : Int) else (vi : Int))) ∧ ∀ j, w'.frozen? ⟨w.heap.size, j, none⟩ = false) ∧ Hid (w' = if D 6 = true then w4.drew.setCell ⟨w.heap.size, i, none⟩ (.int .i64 cg) else w4.drew)) (fun _ _ => True) (by kernel_rfl) (by kernel_rfl) (by kernel_rfl) (fun _ _ _ _ h _ => h) ⟨⟨e0, e2, e4, e3⟩, rfl⟩ ?hops ?hfin
   case hops =>
    repeat' (first | exact OpsOk.nil | refine OpsOk.cons ?_ ?_)
    all_goals try exact rgT
    intro D X w' K hD hS hI hK
    simp only [afterI, Region.binds, forall_const] at hI
    simp only [putL, pE0, pE1, pE4, pE5, pE6, Nat.reduceAdd, up, Nat.reduceEqDiff, if_true, if_false, reduceIte] at hK ⊢
    try simp only [hI] at hK
    go_simp
    have hfar : ∀ (q : Nat) (u v : Value), w'.cell? ⟨w3.heap.size, q, none⟩ = some u → (w'.setCell ⟨w.heap.size, i, none⟩ v).cell? ⟨w3.heap.size, q, none⟩ = some u := fun q u v h => by rw [World.cell?_setCell_far _ _ _ _ (by simp; omega)]; exact h
    refine hK.out undef _ trivial ⟨⟨hfar _ _ _ hS.1.1, hfar _ _ _ hS.1.2.1, by exact World.cell?_setCell_same _ _ _ hS.1.2.2.1, fun j => by rw [World.frozen?_setCell]; exact hS.1.2.2.2 j⟩, ?_⟩ trivial
    show _ = if true = true then _ else _
    rw [hS.2.out, hD]; rfl
   case hfin =>
    intro D X w' hS hD hI
    simp only [putL, pE0, pE1, pE4, pE5, pE6, Nat.reduceAdd]
    have h7 : X 7 = .int .i64 ca := hI 7 (by decide)
    have hw : w' = w4.drew.setCell ⟨w.heap.size, i, none⟩ (.int .i64 cg) := by have := hS.2.out; rw [hD 6 (by decide)] at this; exact this
    rw [h7]
    subst hw
    clear h7 hS hD hI
    have FIN : Hid (PAt (pmix R R' (i + 1)) (w4.drew.setCell ⟨w.heap.size, i, none⟩ (.int .i64 cg)) p sp rate all taken room P (up G' i (G' i)) ∧ GhV (w4.drew.setCell ⟨w.heap.size, i, none⟩ (.int .i64 cg)) w.heap.size C (i + 1)) := by
     have h0 := D1.out.1.fr (pmix_ok o o' _) FA.out.drew (fun b _ => by simp)
     have hg := (D1.out.2.fr FA.out.drew (by simp)).set hlt
     rw [HCC.out] at hg
     refine ⟨h0.fr (pmix_ok o o' _) ((Fr.refl [w.heap.size] _).setCell (by simp) _) (fun b hb hx => ?_), hg⟩
     simp at hx
     subst hx
     rcases D2.out _ hb with h | h
     ·have := HL.out _ h; omega
     ·omega
    have FIF : Fr (w.heap.size :: paF p sp G) w1 (w4.drew.setCell ⟨w.heap.size, i, none⟩ (.int .i64 cg)) := (D3.out.same FA.out.nil.drew).setCell (by simp) _
    have FIM : Hid (0 < i + 1 → ca = (C (i + 1 - 1)).all) := fun _ => by rw [Nat.add_sub_cancel, HCC.out]
    clear e0 e2 e3
    go_wp2_with fail
    exact ⟨⟨i + 1, ca, _, by omega, by go_num, rfl, FIM, FIN.out.1, D2, FIN.out.2, FIF⟩, by simp [intOf]; omega⟩
  ·have : i = 5 := by omega
   subst this
   obtain ⟨V, hb, hv⟩ := hgv.out
   have hm5 := hm.out (by omega)
   simp only [Nat.reduceSub] at hm5
   rw [HGS.out.2.2.2.2.2] at hm5
   subst hm5
   rw [hv 0 (by omega), hv 1 (by omega), hv 2 (by omega), hv 3 (by omega), hv 4 (by omega), HGS.out.1, HGS.out.2.1, HGS.out.2.2.1, HGS.out.2.2.2.1, HGS.out.2.2.2.2.1] at hb
   have b0 := (cell_of_block hb 0).trans rfl
   have b1 := (cell_of_block hb 1).trans rfl
   have b2 := (cell_of_block hb 2).trans rfl
   have b3 := (cell_of_block hb 3).trans rfl
   have b4 := (cell_of_block hb 4).trans rfl
   have z := fun j => free_of_block hb j
   have HFN : Hid (∀ wz, Fr [w.heap.size] wr wz → PaGo R' w p sp rate all taken room P (paF p sp G) wz) := fun wz fz => ⟨G', hp.out.unmixed.fr o' fz (fun b hb hx => hnb (by simp at hx; rw [← hx]; exact hb)), (Sub.refl _ w).fr HF.out.nil hs.out, HF.out.nil.trans (hf.same (fz.mono (by simp))) (fun _ h _ => h) (fun b hb hl => by
    simp at hb
    rcases hb with rfl | hb
    ·omega
    ·exact hb)⟩
   clear hb hv hnb
   go_wp2
   refine bodyPost_ret (v := .tuple #[.agg #[.int .i64 g0, .int .i64 g1, .int .i64 g2, .int .i64 g3, .int .i64 g4], .int .i64 m]) (by simp [results, Tryz.results26, go_sem, World.cell?_setCell_same, b0, b1, b2, b3, b4]) rfl ?_
   refine ⟨rfl, ?_⟩
   exact HFN.out _ ((((((Fr.refl _ _).setCell (by simp) _).setCell (by simp) _).setCell (by simp) _).setCell (by simp) _).setCell (by simp) _)
end
end Go.Proofs.YtphlancijlljcaaGreat
