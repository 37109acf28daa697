/- The mover in memory; what it reads. -/
import Derived.Test.YtphlancijlljcaaGreatState
set_option linter.unusedVariables false
set_option linter.unusedSimpArgs false
namespace Go.Proofs.YtphlancijlljcaaGreat
open Go.RowKit
attribute [local go_sem ↓] Go.wp_at_zero Go.wp_at_succ
/-- An interface's method, found by its type alone. -/
def Finds (ty : TypeId) (m : String) (f : Nat) : Prop := (∀ a w, (method 500 ty (.pointer (some a)) m).run Tryz.prog w = .ok (f, .pointer (some a)) w) ∧ ∀ x w, (callFunc f x).run Tryz.prog w = .ok (.enter f x) w
theorem findsAccess (s : En) : Finds (kTy s.kd) "Access" (kAccess s.kd) := ⟨fun a w => enmAccess s.kd_lt a w, fun x w => encAccess s.kd_lt x w⟩
theorem findsLoad (s : En) : Finds (kTy s.kd) "Load" (kLoad s.kd) := ⟨fun a w => enmLoad s.kd_lt a w, fun x w => encLoad s.kd_lt x w⟩
theorem findsRemove (s : En) : Finds (kTy s.kd) "Remove" (kRemove s.kd) := ⟨fun a w => enmRemove s.kd_lt a w, fun x w => encRemove s.kd_lt x w⟩
theorem findsEvict (s : En) : Finds (kTy s.kd) "Evict" (kEvict s.kd) := ⟨fun a w => enmEvict s.kd_lt a w, fun x w => encEvict s.kd_lt x w⟩
theorem findsHas (s : En) : Finds (kTy s.kd) "Has" (kHas s.kd) := ⟨fun a w => enmHas s.kd_lt a w, fun x w => encHas s.kd_lt x w⟩
theorem findsLen (s : En) : Finds (kTy s.kd) "Len" (kLen s.kd) := ⟨fun a w => enmLen s.kd_lt a w, fun x w => encLen s.kd_lt x w⟩
theorem findsRoom (s : En) : Finds (kTy s.kd) "Room" (kRoom s.kd) := ⟨fun a w => enmRoom s.kd_lt a w, fun x w => encRoom s.kd_lt x w⟩
theorem findsKeys (s : En) : Finds (kTy s.kd) "Keys" (kKeys s.kd) := ⟨fun a w => enmKeys s.kd_lt a w, fun x w => encKeys s.kd_lt x w⟩
theorem findsState (s : En) : Finds (kTy s.kd) "State" (kState s.kd) := ⟨fun a w => enmState s.kd_lt a w, fun x w => encState s.kd_lt x w⟩
def MB (w : World) (m k r : Nat) (a b : Value) : Prop := w.heap[m]? = some (.cells #[.int .i64 (k : Nat), .int .i64 (r : Nat), a, b] 152 (0, 0))
/-- A mover that does not move. -/
def MvA (w : World) (m : Nat) (F : List Nat) (r : Nat) (s : En) : Prop := ∃ e, MB w m s.kd r (.iface (kTy s.kd) (ptr e)) .nilIface ∧ EE w e F s ∧ m ∉ F
/-- A mover that moves from x to s. -/
def MvB (w : World) (m : Nat) (F G : List Nat) (r : Nat) (s x : En) : Prop := ∃ e o, MB w m s.kd r (.iface (kTy s.kd) (ptr e)) (.iface (kTy x.kd) (ptr o)) ∧ EE w e F s ∧ EE w o G x ∧ m ∉ F ∧ m ∉ G ∧ Dis F G
section
variable {w w' : World} {m k r e o : Nat} {F G H : List Nat} {s x : En} {a b : Value}
theorem MB.cell (h : MB w m k r a b) : w.cell? ⟨m, 0, none⟩ = some (.int .i64 (k : Nat)) ∧ w.cell? ⟨m, 1, none⟩ = some (.int .i64 (r : Nat)) ∧ w.cell? ⟨m, 2, none⟩ = some a ∧ w.cell? ⟨m, 3, none⟩ = some b := ⟨cell_of_block h 0, cell_of_block h 1, cell_of_block h 2, cell_of_block h 3⟩
theorem MvA.fr (h : MvA w m F r s) (f : Fr H w w') (hd : Dis (m :: F) H) : MvA w' m F r s := by
 obtain ⟨e, h1, h2, h3⟩ := h
 exact ⟨e, f.get h1 (hd m (by simp)), h2.fr f (fun b hb => hd b (by simp [hb])), h3⟩
theorem MvB.fr (h : MvB w m F G r s x) (f : Fr H w w') (hd : Dis (m :: (F ++ G)) H) : MvB w' m F G r s x := by
 obtain ⟨e, o, h1, h2, h3, h4⟩ := h
 exact ⟨e, o, f.get h1 (hd m (by simp)), h2.fr f (fun b hb => hd b (by simp [hb])), h3.fr f (fun b hb => hd b (by simp [hb])), h4⟩
theorem MvA.fr0 (h : MvA w m F r s) (f : Fr [] w w') : MvA w' m F r s := h.fr f (fun _ _ => by simp)
theorem MvB.fr0 (h : MvB w m F G r s x) (f : Fr [] w w') : MvB w' m F G r s x := h.fr f (fun _ _ => by simp)
theorem MvA.lt (h : MvA w m F r s) : Lt (m :: F) w := by
 obtain ⟨e, h1, h2, h3⟩ := h
 intro b hb
 rcases List.mem_cons.1 hb with rfl | hb
 ·exact lt_of_block h1
 ·exact h2.lt b hb
theorem MvB.lt (h : MvB w m F G r s x) : Lt (m :: (F ++ G)) w := by
 obtain ⟨e, o, h1, h2, h3, h4⟩ := h
 intro b hb
 rcases List.mem_cons.1 hb with rfl | hb
 ·exact lt_of_block h1
 ·rcases List.mem_append.1 hb with hb | hb
  ·exact h2.lt b hb
  ·exact h3.lt b hb
theorem mmovA (h : MB w m k r a .nilIface) : Calls Tryz.prog 59 #[ptr m] w fun en w' => en = .returned (.bool false) ∧ w = w' := by
 obtain ⟨_, _, _, k3⟩ := h.cell
 clear h
 go_enter Tryz.func59, Tryz.ntmps59
 go_wp2
 go_ret
 exact ⟨rfl, rfl⟩
theorem mmovB {ty : TypeId} {v : Value} (h : MB w m k r a (.iface ty v)) : Calls Tryz.prog 59 #[ptr m] w fun en w' => en = .returned (.bool true) ∧ w = w' := by
 obtain ⟨_, _, _, k3⟩ := h.cell
 clear h
 go_enter Tryz.func59, Tryz.ntmps59
 go_wp2
 go_ret
 exact ⟨rfl, rfl⟩
theorem mleftA (h : MB w m k r a .nilIface) : Calls Tryz.prog 65 #[ptr m] w fun en w' => en = .returned (.int .i64 0) ∧ w = w' := by
 have H := Lib.hid (mmovA h)
 clear h
 go_enter Tryz.func65, Tryz.ntmps65
 go_wp2_with fail
 refine H.out.mono ?_
 rintro en w' ⟨rfl, rfl⟩
 go_wp2
 go_ret
 exact ⟨rfl, rfl⟩
theorem mleftB (h : MvB w m F G r s x) : Calls Tryz.prog 65 #[ptr m] w fun en w' => en = .returned (.int .i64 (x.len : Nat)) ∧ Fr [] w w' := by
 obtain ⟨e, o, h1, h2, h3, h4, h5, h6⟩ := h
 have H := Lib.hid (mmovB h1)
 have HL := enLen h3
 obtain ⟨_, _, _, k3⟩ := h1.cell
 obtain ⟨hm, hc⟩ := findsLen x
 generalize kTy x.kd = ty at k3 hm
 generalize kLen x.kd = f at HL hm hc
 generalize x.len = n at HL ⊢
 have HL := Lib.hid HL
 clear h1 h2 h3 h4 h5 h6
 go_enter Tryz.func65, Tryz.ntmps65
 go_wp2_with fail
 refine H.out.mono ?_
 rintro en w' ⟨rfl, rfl⟩
 go_wp2_with fail
 refine HL.out.mono ?_
 rintro en w' ⟨rfl, hf⟩
 go_wp2
 go_ret
 exact ⟨rfl, hf⟩
set_option maxRecDepth 100000 in
theorem mhasA (h : MvA w m F r s) (key : ByteArray) (hk : key.size ≤ maxLen) : Calls Tryz.prog 72 #[ptr m, .string key] w fun en w' => en = .returned (.bool (s.has key)) ∧ Fr [] w w' := by
 obtain ⟨e, h1, h2, h3⟩ := h
 have H := Lib.hid fun W (f : Fr [] w W) => mmovA (f.get h1 (by simp))
 have HL := enHas h2 key hk
 obtain ⟨_, _, k2, k3⟩ := h1.cell
 obtain ⟨hm, hc⟩ := findsHas s
 generalize kTy s.kd = ty at k2 hm
 generalize kHas s.kd = f at HL hm hc
 generalize s.has key = b at HL ⊢
 have HL := Lib.hid HL
 clear h1 h2 h3
 go_enter Tryz.func72, Tryz.ntmps72
 go_wp2_with fail
 refine HL.out.mono ?_
 rintro en w1 ⟨rfl, hf⟩
 cases b with
 | true =>
  go_wp2
  go_ret
  exact ⟨rfl, hf⟩
 | false =>
  go_wp2_with fail
  refine (H.out _ hf).mono ?_
  rintro en w2 ⟨rfl, rfl⟩
  go_wp2
  go_ret
  exact ⟨rfl, hf⟩
set_option maxRecDepth 100000 in
theorem mhasB (h : MvB w m F G r s x) (key : ByteArray) (hk : key.size ≤ maxLen) : Calls Tryz.prog 72 #[ptr m, .string key] w fun en w' => en = .returned (.bool (s.has key || x.has key)) ∧ Fr [] w w' := by
 obtain ⟨e, o, h1, h2, h3, h4, h5, h6⟩ := h
 have H := Lib.hid fun W (f : Fr [] w W) => mmovB (f.get h1 (by simp))
 have HL := enHas h2 key hk
 have HL2 := Lib.hid fun W (f : Fr [] w W) => enHas (h3.fr f (fun _ _ => by simp)) key hk
 obtain ⟨_, _, k2, k3⟩ := h1.cell
 obtain ⟨hm, hc⟩ := findsHas s
 obtain ⟨hm2, hc2⟩ := findsHas x
 generalize kTy s.kd = ty at k2 hm
 generalize kHas s.kd = f at HL hm hc
 generalize s.has key = b at HL ⊢
 generalize kTy x.kd = ty2 at k3 hm2
 generalize kHas x.kd = f2 at HL2 hm2 hc2
 generalize x.has key = b2 at HL2 ⊢
 have HL := Lib.hid HL
 clear h1 h2 h3 h4 h5 h6
 go_enter Tryz.func72, Tryz.ntmps72
 go_wp2_with fail
 refine HL.out.mono ?_
 rintro en w1 ⟨rfl, hf⟩
 cases b with
 | true =>
  go_wp2
  go_ret
  exact ⟨rfl, hf⟩
 | false =>
  go_wp2_with fail
  refine (H.out _ hf).mono ?_
  rintro en w2 ⟨rfl, rfl⟩
  have k3 := cell_fr hf k3 (by simp)
  go_wp2_with fail
  refine (HL2.out _ hf).mono ?_
  rintro en w2 ⟨rfl, hf2⟩
  go_wp2
  go_ret
  exact ⟨by simp, hf.same hf2⟩
end
end Go.Proofs.YtphlancijlljcaaGreat

set_option linter.unusedVariables false
set_option linter.unusedSimpArgs false
namespace Go.Proofs.YtphlancijlljcaaGreat
open Go.RowKit
open Act renaming put → pE0
open List renaming getElem_toArray → pE1, getElem_cons_succ → pE2, getElem_cons_zero → pE3, setIfInBounds_toArray → pE4, set_cons_zero → pE5, set_cons_succ → pE6
attribute [local go_sem ↓] Go.wp_at_zero Go.wp_at_succ
section
variable {w w' : World} {m k r e o : Nat} {F G H : List Nat} {s x : En} {a b : Value}
/-- What New gives. -/
def MvNew (w : World) (s : En) (en : Ending) (w' : World) : Prop := ∃ m F, en = .returned (.tuple #[ptr m, .int .i64 0]) ∧ MvA w' m F s.cap s ∧ Ge w.heap.size (m :: F) ∧ Fr [] w w'

set_option maxRecDepth 100000 in
theorem mnew (w : World) (k : Nat) (hk : k < 5) (room : Int) (h0 : -9223372036854775808 ≤ room) (h1 : room ≤ 9223372036854775807) : Calls Tryz.prog 61 #[.int .i64 k, .int .i64 room] w (MvNew w (En.new k room)) := by
 have hkd := En.new_kd k hk room
 have HN := ennew w k hk room h0 h1
 generalize En.new k room = s at HN hkd ⊢
 subst hkd
 have HRM := Lib.hid fun W e F (h : EE W e F s) => enRoom h
 obtain ⟨hm, hc⟩ := findsRoom s
 unfold EnNew at HN
 unfold MvNew MvA
 generalize hty : kTy s.kd = ty at HN hm ⊢
 generalize kRoom s.kd = f at HRM hm hc
 generalize s.cap = c at HRM ⊢
 generalize s.kd = k at HN ⊢
 have HN := Lib.hid HN
 clear hty
 go_enter Tryz.func61, Tryz.ntmps61
 go_wp2_with fail
 refine HN.out.mono ?_
 rintro en w1 ⟨e, F, rfl, he, hge, hf⟩
 have HE := Lib.hid (And.intro he (And.intro hge hf))
 clear he hge hf
 go_wp2_with fail
 refine (HRM.out _ _ _ HE.out.1).mono ?_
 rintro en w2 ⟨rfl, rfl⟩
 go_wp2
 go_ret2
 obtain ⟨he, hge, hf⟩ := HE.out
 have hlt := he.lt
 refine ⟨_, F, rfl, ⟨e, block_alloc_new _ _, he.fr ((Fr.refl [] w1).alloc _) (fun _ _ => by simp), fun hh => by have := hlt _ hh; omega⟩, ?_, hf.alloc _⟩
 intro b hb
 rcases List.mem_cons.1 hb with rfl | hb
 ·exact hf.size
 ·exact hge b hb
set_option maxRecDepth 100000 in
theorem mlenA (h : MvA w m F r s) (hb : s.len ≤ 50000) : Calls Tryz.prog 56 #[ptr m] w fun en w' => en = .returned (.int .i64 (s.len : Nat)) ∧ Fr [] w w' := by
 obtain ⟨e, h1, h2, h3⟩ := h
 have HLF := Lib.hid fun W (f : Fr [] w W) => mleftA (f.get h1 (by simp))
 have HL := Lib.hid fun W (f : Fr [] w W) => enLen (h2.fr f (fun _ _ => by simp))
 obtain ⟨_, _, k2, k3⟩ := h1.cell
 obtain ⟨hm, hc⟩ := findsLen s
 generalize kTy s.kd = ty at k2 hm
 generalize kLen s.kd = f at HL hm hc
 generalize s.len = n at HL hb ⊢
 clear h1 h2 h3
 go_enter Tryz.func56, Tryz.ntmps56
 go_wp2_with fail
 refine wp_region_inv (fun j v wz => match j with | 0 | 2 | 3 => v = ptr m | 1 => v = .int .i64 0 | 4 => v = .pointer (some ⟨m, 2, none⟩) | 5 => v = .iface ty (ptr e) | 6 | 7 | 8 => v = .int .i64 (n : Nat) | _ => True) (fun _ wz => wz.cell? ⟨m, 2, none⟩ = some (.iface ty (ptr e)) ∧ Hid (Fr [] w wz)) (fun _ _ => True) (by kernel_rfl) (by kernel_rfl) (by kernel_rfl) (fun _ _ _ _ h _ => h) ⟨k2, (Fr.refl [] _).drew⟩ ?hops ?hfin
 case hops =>
  repeat' (first | exact OpsOk.nil | refine OpsOk.cons ?_ ?_)
  all_goals try exact rgT
  ·skip
   intro D X w' K hD hcl hS hI hK
   simp only [afterI, Region.binds, forall_const] at hI
   simp only [putL, pE0, pE1, pE4, pE5, pE6, Nat.reduceAdd, up, Nat.reduceEqDiff, if_true, if_false, reduceIte] at hK ⊢
   try simp only [hI] at hK
   go_simp
   refine (HLF.out _ hS.2.out).mono ?_
   rintro en w3 ⟨rfl, rfl⟩
   exact hK.out _ _ rfl hS trivial
  ·skip
   intro D X w' K hD hcl hS hI hK
   simp only [afterI, Region.binds, forall_const] at hI
   simp only [putL, pE0, pE1, pE4, pE5, pE6, Nat.reduceAdd, up, Nat.reduceEqDiff, if_true, if_false, reduceIte] at hK ⊢
   try simp only [hI] at hK
   go_simp
   refine (HL.out _ hS.2.out).mono ?_
   rintro en w3 ⟨rfl, f3⟩
   exact hK.out _ _ rfl ⟨cell_fr f3 hS.1 (by simp), hS.2.out.same f3⟩ trivial
  ·skip
   intro D X w' K hD hcl hS hI hK
   simp only [afterI, Region.binds, forall_const] at hI
   simp only [putL, pE0, pE1, pE4, pE5, pE6, Nat.reduceAdd, up, Nat.reduceEqDiff, if_true, if_false, reduceIte] at hK ⊢
   try simp only [hI] at hK
   go_simp
   exact hK.out _ _ (by show Value.int _ _ = _; congr 1; first | exact IntWalk.i64_in _ (by omega) | (rw [Int.zero_add]; exact IntWalk.i64_in _ (by omega))) hS trivial
 case hfin =>
  intro D X wa hS hD hI
  simp only [putL, pE0, pE1, pE4, pE5, pE6, Nat.reduceAdd]
  have h8 : X 8 = .int .i64 (n : Nat) := hI 8 (by decide)
  rw [h8]
  have HFW := hS.2
  clear h8 hS hD hI
  go_wp2
  go_ret
  exact ⟨rfl, HFW.out⟩
set_option maxRecDepth 100000 in
theorem mlenB (h : MvB w m F G r s x) (hb : s.len ≤ 50000) (hb2 : x.len ≤ 50000) : Calls Tryz.prog 56 #[ptr m] w fun en w' => en = .returned (.int .i64 (x.len + s.len : Nat)) ∧ Fr [] w w' := by
 have HLF := Lib.hid fun W (f : Fr [] w W) => mleftB (h.fr0 f)
 obtain ⟨e, o, h1, h2, h3, h4, h5, h6⟩ := h
 have HL := Lib.hid fun W (f : Fr [] w W) => enLen (h2.fr f (fun _ _ => by simp))
 obtain ⟨_, _, k2, k3⟩ := h1.cell
 obtain ⟨hm, hc⟩ := findsLen s
 generalize kTy s.kd = ty at k2 hm
 generalize kLen s.kd = f at HL hm hc
 generalize s.len = n at HL hb ⊢
 generalize x.len = l at HLF hb2 ⊢
 obtain ⟨t, ht⟩ : ∃ t, l + n = t := ⟨_, rfl⟩
 rw [ht]
 have HTT := Lib.hid ht
 clear h1 h2 h3 h4 h5 h6
 go_enter Tryz.func56, Tryz.ntmps56
 go_wp2_with fail
 refine wp_region_inv (fun j v wz => match j with | 0 | 2 | 3 => v = ptr m | 1 => v = .int .i64 (l : Nat) | 4 => v = .pointer (some ⟨m, 2, none⟩) | 5 => v = .iface ty (ptr e) | 6 => v = .int .i64 (n : Nat) | 7 | 8 => v = .int .i64 (t : Nat) | _ => True) (fun _ wz => wz.cell? ⟨m, 2, none⟩ = some (.iface ty (ptr e)) ∧ Hid (Fr [] w wz)) (fun _ _ => True) (by kernel_rfl) (by kernel_rfl) (by kernel_rfl) (fun _ _ _ _ h _ => h) ⟨k2, (Fr.refl [] _).drew⟩ ?hops ?hfin
 case hops =>
  clear ht
  repeat' (first | exact OpsOk.nil | refine OpsOk.cons ?_ ?_)
  all_goals try exact rgT
  ·skip
   intro D X w' K hD hcl hS hI hK
   simp only [afterI, Region.binds, forall_const] at hI
   simp only [putL, pE0, pE1, pE4, pE5, pE6, Nat.reduceAdd, up, Nat.reduceEqDiff, if_true, if_false, reduceIte] at hK ⊢
   try simp only [hI] at hK
   go_simp
   refine (HLF.out _ hS.2.out).mono ?_
   rintro en w3 ⟨rfl, f3⟩
   exact hK.out _ _ rfl ⟨cell_fr f3 hS.1 (by simp), hS.2.out.same f3⟩ trivial
  ·skip
   intro D X w' K hD hcl hS hI hK
   simp only [afterI, Region.binds, forall_const] at hI
   simp only [putL, pE0, pE1, pE4, pE5, pE6, Nat.reduceAdd, up, Nat.reduceEqDiff, if_true, if_false, reduceIte] at hK ⊢
   try simp only [hI] at hK
   go_simp
   refine (HL.out _ hS.2.out).mono ?_
   rintro en w3 ⟨rfl, f3⟩
   exact hK.out _ _ rfl ⟨cell_fr f3 hS.1 (by simp), hS.2.out.same f3⟩ trivial
  ·skip
   intro D X w' K hD hcl hS hI hK
   simp only [afterI, Region.binds, forall_const] at hI
   simp only [putL, pE0, pE1, pE4, pE5, pE6, Nat.reduceAdd, up, Nat.reduceEqDiff, if_true, if_false, reduceIte] at hK ⊢
   try simp only [hI] at hK
   go_simp
   exact hK.out _ _ (by show Value.int _ _ = _; rw [← HTT.out, ← ad1 (by omega)]) hS trivial
 case hfin =>
  intro D X wa hS hD hI
  simp only [putL, pE0, pE1, pE4, pE5, pE6, Nat.reduceAdd]
  have h8 : X 8 = .int .i64 (t : Nat) := hI 8 (by decide)
  rw [h8]
  have HFW := hS.2
  clear h8 hS hD hI ht
  go_wp2
  go_ret
  exact ⟨rfl, HFW.out⟩
end
end Go.Proofs.YtphlancijlljcaaGreat

set_option linter.unusedVariables false
set_option linter.unusedSimpArgs false
namespace Go.Proofs.YtphlancijlljcaaGreat
open Go.RowKit
open Act renaming put → pE0
open List renaming getElem_toArray → pE1, getElem_cons_succ → pE2, getElem_cons_zero → pE3, setIfInBounds_toArray → pE4, set_cons_zero → pE5, set_cons_succ → pE6
attribute [local go_sem ↓] Go.wp_at_zero Go.wp_at_succ
/-- How State of an engine is written: arc and twoq. -/
def En.text : En → Option ByteArray | .A s => if s.p < 100 then some s.text else none | .Q s => some s.text | _ => none
def En.Tame : En → Prop | .A s => ∀ i, Short 10000 (s.K i) | .Q s => ∀ i, Short 10000 (s.K i) | _ => False
theorem enState {w : World} {e : Nat} {F : List Nat} {s : En} (h : EE w e F s) (ht : s.Tame) {t : ByteArray} (hs : s.text = some t) : Calls Tryz.prog (kState s.kd) #[ptr e] w fun en w' => en = .returned (.string t) ∧ Fr [] w w' := by
 cases s with
 | A s =>
  by_cases hp : s.p < 100
  ·have e1 : s.text = t := by unfold En.text at hs; simp only [hp, if_true] at hs; exact Option.some.inj hs
   subst e1
   exact astate h hp ht
  ·unfold En.text at hs; simp [hp] at hs
 | Q s =>
  have e1 : s.text = t := Option.some.inj hs
  subst e1
  exact qstate h ht
 | L s => exact ht.elim
 | U s => exact ht.elim
 | S s => exact ht.elim
section
variable {w w' : World} {m k r e o : Nat} {F G H : List Nat} {s x : En} {a b : Value}
theorem mstateA (h : MvA w m F r s) (ht : s.Tame) {t : ByteArray} (hs : s.text = some t) : Calls Tryz.prog 73 #[ptr m] w fun en w' => en = .returned (.string t) ∧ Fr [] w w' := by
 obtain ⟨e, h1, h2, h3⟩ := h
 have H := Lib.hid (mmovA h1)
 have HL := enState h2 ht hs
 obtain ⟨_, _, k2, k3⟩ := h1.cell
 obtain ⟨hm, hc⟩ := findsState s
 generalize kTy s.kd = ty at k2 hm
 generalize kState s.kd = f at HL hm hc
 have HL := Lib.hid HL
 clear h1 h2 h3 hs ht
 go_enter Tryz.func73, Tryz.ntmps73
 go_wp2_with fail
 refine H.out.mono ?_
 rintro en w' ⟨rfl, rfl⟩
 go_wp2_with fail
 refine HL.out.mono ?_
 rintro en w' ⟨rfl, hf⟩
 go_wp2
 go_ret
 exact ⟨rfl, hf⟩
set_option maxRecDepth 100000 in
theorem mstateB (h : MvB w m F G r s x) (ht : s.Tame) (ht2 : x.Tame) {t t2 : ByteArray} (hs : s.text = some t) (hs2 : x.text = some t2) (hz : t.size ≤ 1000000000000) (hz2 : t2.size ≤ 1000000000000) :
  Calls Tryz.prog 73 #[ptr m] w fun en w' => en = .returned (.string (t2 ++ ⟨#[32, 62, 32]⟩ ++ t)) ∧ Fr [] w w' := by
 obtain ⟨e, o, h1, h2, h3, h4, h5, h6⟩ := h
 have H := Lib.hid (mmovB h1)
 have HL := Lib.hid fun W (f : Fr [] w W) => enState (h2.fr f (fun _ _ => by simp)) ht hs
 have HL2 := Lib.hid fun W (f : Fr [] w W) => enState (h3.fr f (fun _ _ => by simp)) ht2 hs2
 obtain ⟨_, _, k2, k3⟩ := h1.cell
 obtain ⟨hm, hc⟩ := findsState s
 obtain ⟨hm2, hc2⟩ := findsState x
 generalize kTy s.kd = ty at k2 hm
 generalize kState s.kd = f at HL hm hc
 generalize kTy x.kd = ty2 at k3 hm2
 generalize kState x.kd = f2 at HL2 hm2 hc2
 obtain ⟨u, hu⟩ : ∃ u, t2 ++ ⟨#[32, 62, 32]⟩ = u := ⟨_, rfl⟩
 have hus : u.size = t2.size + 3 := by rw [← hu, ByteArray.size_append]; rfl
 have q1 : ¬ 9223372036854775807 < t2.size + 3 := by omega
 have q2 : ¬ 9223372036854775807 < u.size + t.size := by omega
 obtain ⟨R, hR⟩ : ∃ R, u ++ t = R := ⟨_, rfl⟩
 rw [hu, hR]
 have HU := Lib.hid hu
 have HR := Lib.hid hR
 clear h1 h2 h3 h4 h5 h6 hs ht hs2 ht2 hu hR hus hz hz2
 go_enter Tryz.func73, Tryz.ntmps73
 go_wp2_with fail
 refine H.out.mono ?_
 rintro en w' ⟨rfl, rfl⟩
 go_wp2_with fail
 refine wp_region_inv (fun j v wz => match j with | 0 | 1 | 6 | 7 => v = ptr m | 2 => v = .pointer (some ⟨m, 3, none⟩) | 3 => v = .iface ty2 (ptr o) | 4 => v = .string t2 | 5 => v = .string u | 8 => v = .pointer (some ⟨m, 2, none⟩) | 9 => v = .iface ty (ptr e) | 10 => v = .string t | 11 | 12 => v = .string R | _ => True) (fun _ wz => (wz.cell? ⟨m, 2, none⟩ = some (.iface ty (ptr e)) ∧ wz.cell? ⟨m, 3, none⟩ = some (.iface ty2 (ptr o))) ∧ Hid (Fr [] w wz)) (fun _ _ => True) (by kernel_rfl) (by kernel_rfl) (by kernel_rfl) (fun _ _ _ _ h _ => h) ⟨⟨k2, k3⟩, (Fr.refl [] _).drew⟩ ?hops ?hfin
 case hops =>
  repeat' (first | exact OpsOk.nil | refine OpsOk.cons ?_ ?_)
  all_goals try exact rgT
  ·skip
   intro D X w' K hD hcl hS hI hK
   simp only [afterI, Region.binds, forall_const] at hI
   simp only [putL, pE0, pE1, pE4, pE5, pE6, Nat.reduceAdd, up, Nat.reduceEqDiff, if_true, if_false, reduceIte] at hK ⊢
   try simp only [hI] at hK
   go_simp
   refine (HL2.out _ hS.2.out).mono ?_
   rintro en w3 ⟨rfl, f3⟩
   exact hK.out _ _ rfl ⟨⟨cell_fr f3 hS.1.1 (by simp), cell_fr f3 hS.1.2 (by simp)⟩, hS.2.out.same f3⟩ trivial
  ·skip
   intro D X w' K hD hcl hS hI hK
   simp only [afterI, Region.binds, forall_const] at hI
   simp only [putL, pE0, pE1, pE4, pE5, pE6, Nat.reduceAdd, up, Nat.reduceEqDiff, if_true, if_false, reduceIte] at hK ⊢
   try simp only [hI] at hK
   go_simp
   exact hK.out _ _ (by rw [← HU.out]) hS trivial
  ·skip
   intro D X w' K hD hcl hS hI hK
   simp only [afterI, Region.binds, forall_const] at hI
   simp only [putL, pE0, pE1, pE4, pE5, pE6, Nat.reduceAdd, up, Nat.reduceEqDiff, if_true, if_false, reduceIte] at hK ⊢
   try simp only [hI] at hK
   go_simp
   refine (HL.out _ hS.2.out).mono ?_
   rintro en w3 ⟨rfl, f3⟩
   exact hK.out _ _ rfl ⟨⟨cell_fr f3 hS.1.1 (by simp), cell_fr f3 hS.1.2 (by simp)⟩, hS.2.out.same f3⟩ trivial
  ·skip
   intro D X w' K hD hcl hS hI hK
   simp only [afterI, Region.binds, forall_const] at hI
   simp only [putL, pE0, pE1, pE4, pE5, pE6, Nat.reduceAdd, up, Nat.reduceEqDiff, if_true, if_false, reduceIte] at hK ⊢
   try simp only [hI] at hK
   go_simp
   exact hK.out _ _ (by rw [← HR.out]) hS trivial
 case hfin =>
  intro D X wa hS hD hI
  simp only [putL, pE0, pE1, pE4, pE5, pE6, Nat.reduceAdd]
  have h12 : X 12 = .string R := hI 12 (by decide)
  rw [h12]
  have HFW := hS.2
  clear h12 hS hD hI
  go_wp2
  go_ret
  exact ⟨rfl, HFW.out⟩
theorem mfinA (h : MB w m k r a .nilIface) : Calls Tryz.prog 58 #[ptr m] w fun en w' => en = .returned (.int .i64 0) ∧ w = w' := by
 have H := Lib.hid fun W (f : W = w) => mmovA (f ▸ h)
 clear h
 go_enter Tryz.func58, Tryz.ntmps58
 go_wp2_with fail
 go_loopw [3] (fun u3 wr => u3 = .int .i64 0 ∧ wr = w) (fun _ _ => 0)
 case atStart => exact ⟨rfl, rfl⟩
 case round =>
  obtain ⟨rfl, rfl⟩ := hrel
  go_wp2_with fail
  refine (H.out _ rfl).mono ?_
  rintro en w' ⟨rfl, rfl⟩
  go_wp2
  go_ret
  exact ⟨rfl, rfl⟩
end
end Go.Proofs.YtphlancijlljcaaGreat

set_option linter.unusedVariables false
set_option linter.unusedSimpArgs false
namespace Go.Proofs.YtphlancijlljcaaGreat
open Go.RowKit
attribute [local go_sem ↓] Go.wp_at_zero Go.wp_at_succ
section
variable {w w' : World} {m k r e o : Nat} {F G H : List Nat} {s x : En} {a b : Value}
/-- What a step of a mover that moves leaves. -/
def MvGoB (w : World) (m : Nat) (F G : List Nat) (r : Nat) (s x : En) (w' : World) : Prop := ∃ F' G', MvB w' m F' G' r s x ∧ Sub F' F w ∧ Sub G' G w ∧ Fr (F ++ G) w w'
def MvGoA (w : World) (m : Nat) (F : List Nat) (r : Nat) (s : En) (w' : World) : Prop := ∃ F', MvA w' m F' r s ∧ Sub F' F w ∧ Fr F w w'
set_option maxRecDepth 100000 in
theorem mmoves (h : MvB w m F G r s x) (key : ByteArray) (hz : key.size ≤ maxLen) : Calls Tryz.prog 116 #[ptr m, .string key] w fun en w' => en = .returned (.tuple #[]) ∧ MvGoB w m F G r (s.load key).2 (x.remove key).2 w' := by
 have hlt := h.lt
 obtain ⟨e, o, h1, h2, h3, h4, h5, h6⟩ := h
 have hk1 := s.load_kd key
 have hk2 := x.remove_kd key
 have HR := enRemove h3 key hz
 have HL := Lib.hid fun W (f : Fr G w W) => enLoad (h2.fr f h6) key hz
 obtain ⟨_, _, k2, k3⟩ := h1.cell
 obtain ⟨hm, hc⟩ := findsLoad s
 obtain ⟨hm2, hc2⟩ := findsRemove x
 obtain ⟨s', hs'⟩ : ∃ s', (s.load key).2 = s' := ⟨_, rfl⟩
 obtain ⟨x', hx'⟩ : ∃ x', (x.remove key).2 = x' := ⟨_, rfl⟩
 rw [hs'] at hk1 HL ⊢
 rw [hx'] at hk2 HR ⊢
 have HFIN : Hid (∀ w1 w2 F' G', EE w1 o G' x' → Sub G' G w → Fr G w w1 → EE w2 e F' s' → Sub F' F w1 → Fr F w1 w2 → MvGoB w m F G r s' x' w2) := fun w1 w2 F' G' a1 a2 a3 b1 b2 b3 => by
  have hd1 : Dis F G' := (Dis.sub h6.symm a2 h2.lt).symm
  have hd2 : Dis F' G' := Dis.sub hd1 b2 a1.lt
  have hmlt := hlt m (by simp)
  have hm1 : m ∉ G' := fun hh => by
   rcases a2 m hh with c | c
   ·exact h5 c
   ·omega
  have hm2 : m ∉ F' := fun hh => by
   rcases b2 m hh with c | c
   ·exact h4 c
   ·have := a3.size; omega
  refine ⟨F', G', ⟨e, o, ?_, b1, a1.fr b3 hd1.symm, hm2, hm1, hd2⟩, fun b hb => (b2 b hb).imp id fun c => Nat.le_trans a3.size c, a2, a3.trans b3 (fun b hb _ => by simp [hb]) (fun b hb _ => by simp [hb])⟩
  rw [hk1, hk2]
  exact b3.get (a3.get h1 h5) h4
 generalize kTy s.kd = ty at k2 hm
 generalize kLoad s.kd = f at HL hm hc
 generalize kTy x.kd = ty2 at k3 hm2
 generalize kRemove x.kd = f2 at HR hm2 hc2
 generalize (s.load key).1 = b1 at HL
 generalize (x.remove key).1 = b2 at HR
 have HR := Lib.hid HR
 have hm5 := h5
 clear hlt h1 h2 h3 h4 h5 h6 hk1 hk2 hs' hx'
 go_enter Tryz.func116, Tryz.ntmps116
 go_wp2_with fail
 refine HR.out.mono ?_
 rintro en w1 ⟨rfl, G', a1, a2, a3⟩
 have k2 := cell_fr a3 k2 hm5
 have HA := Lib.hid (And.intro a1 (And.intro a2 a3))
 clear a1 a2
 go_wp2_with fail
 refine (HL.out w1 a3).mono ?_
 rintro en w2 ⟨rfl, F', c1, c2, c3⟩
 have HC := Lib.hid (And.intro c1 (And.intro c2 c3))
 clear c1 c2 c3 a3
 go_wp2
 go_end0
 exact ⟨rfl, HFIN.out w1 w2 F' G' HA.out.1 HA.out.2.1 HA.out.2.2 HC.out.1 HC.out.2.1 HC.out.2.2⟩
/-- A Step, while there are keys. -/
theorem mstepB {key : ByteArray} {l : List ByteArray} (h : MvB w m F G r s x) (hx : x.keys = key :: l) (hz : key.size ≤ maxLen) (hb : l.length ≤ 50000) :
  Calls Tryz.prog 57 #[ptr m] w fun en w' => en = .returned (.tuple #[.string key, .bool true]) ∧ MvGoB w m F G r (s.load key).2 (x.remove key).2 w' := by
 have hlt := h.lt
 have HMM := Lib.hid fun W (f : Fr [] w W) => mmoves (h.fr0 f) key hz
 obtain ⟨e, o, h1, h2, h3, h4, h5, h6⟩ := h
 have H := Lib.hid (mmovB h1)
 have HKS := enKeys h3
 rw [hx] at HKS
 obtain ⟨_, _, _, k3⟩ := h1.cell
 obtain ⟨hm, hc⟩ := findsKeys x
 generalize kTy x.kd = ty at k3 hm
 generalize kKeys x.kd = f at HKS hm hc
 have HKS := Lib.hid HKS
 generalize (s.load key).2 = s' at HMM ⊢
 generalize (x.remove key).2 = x' at HMM ⊢
 have HLT := Lib.hid hlt
 obtain ⟨n, hn⟩ : ∃ n, (key :: l).length = n := ⟨_, rfl⟩
 have hn0 : 0 < n := by rw [← hn]; simp
 have hn1 : n ≤ 50001 := by rw [← hn]; simp; omega
 have q1 : ((n : Int) == 0) = false := by rw [beq_eq_false_iff_ne]; omega
 have q2 : (0 : Int) < (n : Int) := by omega
 have HNN := Lib.hid hn
 clear h1 h2 h3 h4 h5 h6 hx hlt hn
 go_enter Tryz.func57, Tryz.ntmps57
 go_wp2_with fail
 refine H.out.mono ?_
 rintro en w' ⟨rfl, rfl⟩
 go_wp2_with fail
 refine HKS.out.mono ?_
 rintro en w1 ⟨v, rfl, hgo, hf⟩
 have hgo2 := hgo.1
 rw [HNN.out] at hgo2
 obtain ⟨gb, go, gc, rfl, hgl⟩ := hgo2.pos hn0
 have x0 := Sl.cell (j := 0) (u := .string key) hgo2 (by simp)
 rw [Nat.add_zero] at x0
 have hge : w.heap.size ≤ gb := hgo.2 gb (by simp [Value.ownBlock])
 have HF := Lib.hid (And.intro hf (And.intro hge hgl))
 clear hgo hgo2 hge hgl
 go_wp2_with fail
 refine (HMM.out _ hf).mono ?_
 rintro en w2 ⟨rfl, hgo⟩
 have x0 : w2.cell? ⟨gb, go, none⟩ = some (.string key) := by
  obtain ⟨F', G', _, _, _, f3⟩ := hgo
  refine cell_fr f3 x0 fun hh => ?_
  have := HLT.out gb (by simp at hh ⊢; exact .inr hh)
  have := HF.out.2.1
  omega
 have HG := Lib.hid hgo
 clear hgo hf
 go_wp2
 go_ret2
 obtain ⟨F', G', a, b, c, d⟩ := HG.out
 have f := HF.out.1
 exact ⟨rfl, F', G', a, fun y hy => (b y hy).imp id fun z => Nat.le_trans f.size z, fun y hy => (c y hy).imp id fun z => Nat.le_trans f.size z, f.trans d (fun y hy _ => by simp at hy) (fun y hy _ => hy)⟩
/-- The Step that ends a move. -/
theorem mstepEnd (h : MvB w m F G r s x) (hx : x.keys = []) :
  Calls Tryz.prog 57 #[ptr m] w fun en w' => en = .returned (.tuple #[.string ⟨#[]⟩, .bool false]) ∧ MvA w' m F r s ∧ Fr [m] w w' := by
 obtain ⟨e, o, h1, h2, h3, h4, h5, h6⟩ := h
 have H := Lib.hid (mmovB h1)
 have HKS := enKeys h3
 rw [hx] at HKS
 obtain ⟨_, _, _, k3⟩ := h1.cell
 obtain ⟨hm, hc⟩ := findsKeys x
 have HFIN : Hid (∀ w1, Fr [] w w1 → MvA (w1.setCell ⟨m, 3, none⟩ .nilIface) m F r s ∧ Fr [m] w (w1.setCell ⟨m, 3, none⟩ .nilIface)) := fun w1 f => by
  have f2 : Fr [m] w1 (w1.setCell ⟨m, 3, none⟩ .nilIface) := (Fr.refl [m] w1).setCell (by simp) _
  exact ⟨⟨e, block_set_same (f.get h1 (by simp)) 3 _, (h2.fr f (fun _ _ => by simp)).fr f2 (fun b hb hh => by simp at hh; subst hh; exact h4 hb), h4⟩, (f.mono (fun _ h => by cases h)).same f2⟩
 have HZ := Lib.hid fun W (f : Fr [] w W) => free_of_block (f.get h1 (by simp)) 3
 generalize kTy x.kd = ty at k3 hm
 generalize kKeys x.kd = f at HKS hm hc
 have HKS := Lib.hid HKS
 clear h1 h2 h3 h4 h5 h6 hx
 go_enter Tryz.func57, Tryz.ntmps57
 go_wp2_with fail
 refine H.out.mono ?_
 rintro en w' ⟨rfl, rfl⟩
 go_wp2_with fail
 refine HKS.out.mono ?_
 rintro en w1 ⟨v, rfl, hgo, hf⟩
 obtain ⟨va, vc, rfl⟩ := hgo.1.form
 have z3 := HZ.out _ hf
 have k3 := cell_fr hf k3 (by simp)
 have HF := Lib.hid hf
 clear hgo hf
 go_wp2
 go_ret2
 exact ⟨rfl, HFIN.out _ HF.out⟩
end
end Go.Proofs.YtphlancijlljcaaGreat

set_option linter.unusedVariables false
set_option linter.unusedSimpArgs false
namespace Go.Proofs.YtphlancijlljcaaGreat
open Go.RowKit
open Act renaming put → pE0
open List renaming getElem_toArray → pE1, getElem_cons_succ → pE2, getElem_cons_zero → pE3, setIfInBounds_toArray → pE4, set_cons_zero → pE5, set_cons_succ → pE6
attribute [local go_sem ↓] Go.wp_at_zero Go.wp_at_succ
section
variable {w w' : World} {m k r e o : Nat} {F G H : List Nat} {s x : En} {a b : Value}
set_option maxRecDepth 100000 in
theorem mbeginA (h : MvA w m F r s) (k : Nat) (hk : k < 5) (hr : r ≤ 100000) : Calls Tryz.prog 54 #[ptr m, .int .i64 k] w fun en w' => en = .returned (.int .i64 0) ∧ ∃ F', MvB w' m F' F r (En.new k r) s ∧ Ge w.heap.size F' ∧ Fr [m] w w' := by
 have hlt := h.lt
 obtain ⟨e, h1, h2, h3⟩ := h
 have HN := ennew w k hk (r : Int) (by omega) (by omega)
 have hkd := En.new_kd k hk (r : Int)
 generalize En.new k (r : Int) = x at HN hkd ⊢
 subst hkd
 have HFA := Lib.hid fun W (f : Fr [] w W) => mfinA (f.get h1 (by simp))
 obtain ⟨k0, k1, k2, k3⟩ := h1.cell
 have z0 := free_of_block h1 0
 have z2 := free_of_block h1 2
 have z3 := free_of_block h1 3
 have HZ := Lib.hid fun W (f : Fr [] w W) i => free_of_block (f.get h1 (by simp)) i
 unfold EnNew at HN
 have HFIN : Hid (∀ w1 q F', EE w1 q F' x → Ge w.heap.size F' → Fr [] w w1 → ∀ w2, w2 = ((w1.setCell ⟨m, 0, none⟩ (.int .i64 (x.kd : Nat))).setCell ⟨m, 2, none⟩ (.iface (kTy x.kd) (ptr q))).setCell ⟨m, 3, none⟩ (.iface (kTy s.kd) (ptr e)) → MvB w2 m F' F r x s ∧ Fr [m] w w2) := fun w1 q F' a1 a2 f w2 hw2 => by
  subst hw2
  have f2 : Fr [m] w1 (((w1.setCell ⟨m, 0, none⟩ (.int .i64 (x.kd : Nat))).setCell ⟨m, 2, none⟩ (.iface (kTy x.kd) (ptr q))).setCell ⟨m, 3, none⟩ (.iface (kTy s.kd) (ptr e))) := (((Fr.refl [m] w1).setCell (p := ⟨m, 0, none⟩) (by simp) _).setCell (p := ⟨m, 2, none⟩) (by simp) _).setCell (p := ⟨m, 3, none⟩) (by simp) _
  have hm := hlt m (by simp)
  have hm' : m ∉ F' := fun hh => by have := a2 m hh; omega
  have dm : ∀ {L : List Nat}, m ∉ L → Dis L [m] := fun hL b hb hh => by simp at hh; subst hh; exact hL hb
  refine ⟨⟨q, e, ?_, a1.fr f2 (dm hm'), (h2.fr f (fun _ _ => by simp)).fr f2 (dm h3), hm', h3, Dis.new a2 h2.lt⟩, (f.mono (fun _ h => by cases h)).same f2⟩
  exact block_set_same (block_set_same (block_set_same (f.get h1 (by simp)) 0 _) 2 _) 3 _
 generalize kTy s.kd = ty at k2 HFIN
 generalize s.kd = k9 at k0
 generalize kTy x.kd = ty2 at HN HFIN
 generalize x.kd = k at HN HFIN ⊢
 have HN := Lib.hid HN
 clear hlt h1 h2 h3
 go_enter Tryz.func54, Tryz.ntmps54
 go_wp2_with fail
 refine HN.out.mono ?_
 rintro en w1 ⟨q, F', rfl, a1, a2, f1⟩
 have k0 := cell_fr f1 k0 (by simp)
 have k1 := cell_fr f1 k1 (by simp)
 have k2 := cell_fr f1 k2 (by simp)
 have k3 := cell_fr f1 k3 (by simp)
 have z0 := HZ.out _ f1 0
 have z2 := HZ.out _ f1 2
 have z3 := HZ.out _ f1 3
 have HA := Lib.hid (And.intro a1 (And.intro a2 f1))
 clear a1 a2 f1
 go_wp2_with fail
 refine (HFA.out _ HA.out.2.2).mono ?_
 rintro en w2 ⟨rfl, rfl⟩
 go_wp2
 go_ret
 obtain ⟨b1, b2⟩ := HFIN.out w1 q F' HA.out.1 HA.out.2.1 HA.out.2.2 _ rfl
 exact ⟨rfl, F', b1, HA.out.2.1, b2⟩
set_option maxRecDepth 100000 in
/-- Insert of a key that is not there, while it does not move. -/
theorem minsertA (h : MvA w m F r s) (key : ByteArray) (hz : key.size ≤ maxLen) (hh : s.has key = false) (hl : s.len ≤ 50000) :
  Calls Tryz.prog 70 #[ptr m, .string key] w fun en w' => ∃ v, en = .returned v ∧ Gone w w' v (s.access key).2.1 ∧ MvGoA w m F r (s.access key).2.2 w' := by
 have hlt := h.lt
 have HHS := mhasA h key hz
 rw [hh] at HHS
 have HLN := Lib.hid fun W (f : Fr [] w W) => mlenA (h.fr0 f) hl
 obtain ⟨e, h1, h2, h3⟩ := h
 have HLF := Lib.hid fun W (f : Fr [] w W) => mleftA (f.get h1 (by simp))
 have HAC := Lib.hid fun W (f : Fr [] w W) => enAccess (h2.fr f (fun _ _ => by simp)) key hz
 have hkd := s.access_kd key
 have hwn := h2.went key hz
 obtain ⟨_, k1, k2, k3⟩ := h1.cell
 obtain ⟨hm, hc⟩ := findsAccess s
 obtain ⟨hit, l, s', hacc⟩ : ∃ hit l s', s.access key = (hit, l, s') := ⟨_, _, _, rfl⟩
 rw [hacc] at HAC hkd hwn ⊢
 simp only at hkd hwn ⊢
 obtain ⟨hl100, _⟩ := hwn
 have HFIN : Hid (∀ w0 w1 F', Fr [] w w0 → EE w1 e F' s' → Sub F' F w0 → Fr F w0 w1 → MvGoA w m F r s' w1) := fun w0 w1 F' f a1 a2 a3 => by
  have hmm := hlt m (by simp)
  refine ⟨F', ⟨e, ?_, a1, fun hh => ?_⟩, fun b hb => (a2 b hb).imp id fun c => Nat.le_trans f.size c, f.trans a3 (fun y hy _ => by simp at hy) (fun y hy _ => hy)⟩
  ·rw [hkd]
   exact a3.get (f.get h1 (by simp)) h3
  ·rcases a2 m hh with c | c
   ·exact h3 c
   ·have := f.size; omega
 have HLT := Lib.hid hlt
 generalize kTy s.kd = ty at k2 hm
 generalize kAccess s.kd = f at HAC hm hc
 obtain ⟨n, hn⟩ : ∃ n, s.len = n := ⟨_, rfl⟩
 rw [hn] at HLN
 obtain ⟨bb, hbb⟩ : ∃ b, decide ((r : Int) ≤ (n : Int)) = b := ⟨_, rfl⟩
 have HHS := Lib.hid HHS
 clear hlt h1 h2 h3 hkd hacc hh hn
 go_enter Tryz.func70, Tryz.ntmps70
 go_wp2_with fail
 refine HHS.out.mono ?_
 rintro en w1 ⟨rfl, f1⟩
 have k1 := cell_fr f1 k1 (by simp)
 have k2 := cell_fr f1 k2 (by simp)
 have HF1 := Lib.hid f1
 clear f1
 go_wp2_with fail
 go_loopw [5] (fun u5 wr => u5 = .slice none 0 0 ∧ wr = w1) (fun _ _ => 0)
 case atStart => exact ⟨rfl, rfl⟩
 case round =>
  obtain ⟨rfl, rfl⟩ := hrel
  go_wp2_with fail
  cases bb with
  | true =>
   have q1 : (r : Int) ≤ (n : Int) := by simpa using hbb
   refine wp_region_inv (fun j v wz => match j with | 0 | 2 | 3 => v = ptr m | 1 => v = .int .i64 (n : Nat) | 4 => v = .pointer (some ⟨m, 1, none⟩) | 5 => v = .int .i64 (r : Nat) | 6 | 7 => v = .bool true | 8 => v = ptr m | 9 => v = .int .i64 0 | 10 => v = .bool false | 11 => v = .bool false | _ => True) (fun _ wz => (wz.cell? ⟨m, 1, none⟩ = some (.int .i64 (r : Nat)) ∧ wz.cell? ⟨m, 2, none⟩ = some (.iface ty (ptr e))) ∧ Hid (Fr [] w wz)) (fun _ _ => True) (by kernel_rfl) (by kernel_rfl) (by kernel_rfl) (fun _ _ _ _ h _ => h) ⟨⟨k1, k2⟩, HF1.out.drew⟩ ?hops ?hfin
   case hops =>
    repeat' (first | exact OpsOk.nil | refine OpsOk.cons ?_ ?_)
    all_goals try exact rgT
    ·skip
     intro D X w' K hD hcl hS hI hK
     simp only [afterI, Region.binds, forall_const] at hI
     simp only [putL, pE0, pE1, pE4, pE5, pE6, Nat.reduceAdd, up, Nat.reduceEqDiff, if_true, if_false, reduceIte] at hK ⊢
     try simp only [hI] at hK
     go_simp
     refine (HLN.out _ hS.2.out).mono ?_
     rintro en w3 ⟨rfl, f3⟩
     exact hK.out _ _ rfl ⟨⟨cell_fr f3 hS.1.1 (by simp), cell_fr f3 hS.1.2 (by simp)⟩, hS.2.out.same f3⟩ trivial
    ·skip
     intro D X w' K hD hcl hS hI hK
     simp only [afterI, Region.binds, forall_const] at hI
     simp only [putL, pE0, pE1, pE4, pE5, pE6, Nat.reduceAdd, up, Nat.reduceEqDiff, if_true, if_false, reduceIte] at hK ⊢
     try simp only [hI] at hK
     go_simp
     refine (HLF.out _ hS.2.out).mono ?_
     rintro en w3 ⟨rfl, rfl⟩
     exact hK.out _ _ rfl hS trivial
   case hfin =>
    intro D X wa hS hD hI
    simp only [putL, pE0, pE1, pE4, pE5, pE6, Nat.reduceAdd]
    have h11 : X 11 = .bool false := hI 11 (by decide)
    rw [h11]
    have HFW := hS.2
    have k2 := hS.1.2
    clear h11 hS hD hI
    go_wp2_with fail
    refine (HAC.out _ HFW.out).mono ?_
    rintro en w2 ⟨v, F', rfl, hgo, b1, b2, b3, _⟩
    have HB := Lib.hid (And.intro b1 (And.intro b2 b3))
    have HGO := Lib.hid hgo
    obtain ⟨va, vc, hv⟩ := hgo.1.form
    obtain ⟨nl, hnl⟩ : ∃ n, l.length = n := ⟨_, rfl⟩
    rw [hnl] at hv
    subst hv
    clear hgo b1 b2 b3 hnl
    go_wp2_with (at_builtin; refine app_list rfl _ _ rfl (.slice none 0 0) (.slice va nl vc) [] l rfl rfl ?hsl ?src ?hb ?_)
    case hsl => exact (Gone.nil w2 w2).1
    case src => exact SS.src HGO.out.1
    case hb => show 0 + l.length ≤ 1000000; omega
    intro b' n' c' w3 hn' happ
    obtain ⟨g1, g2⟩ := happ.new (Fr.refl [] w2) (Gone.nil w2 w2).2
    have HG1 := Lib.hid (And.intro g1 g2)
    clear happ g1 g2 hn'
    go_wp2
    go_ret
    obtain ⟨g1, g2⟩ := HG1.out
    obtain ⟨b1, b2, b3⟩ := HB.out
    obtain ⟨F'', c1, c2, c3⟩ := HFIN.out _ _ _ HFW.out b1 b2 b3
    exact ⟨_, rfl, g1.old (Nat.le_trans HFW.out.size b3.size), F'', c1.fr0 g2, c2, c3.trans g2 (fun y hy _ => hy) (fun y hy _ => by cases hy)⟩
  | false =>
   have q1 : (n : Int) < (r : Int) := Int.not_le.1 (by simpa using hbb)
   have q2 : decide (r ≤ n) = false := by rw [decide_eq_false_iff_not]; omega
   have q3 : ¬ r ≤ n := by omega
   refine wp_region_inv (fun j v wz => match j with | 0 | 2 | 3 => v = ptr m | 1 => v = .int .i64 (n : Nat) | 4 => v = .pointer (some ⟨m, 1, none⟩) | 5 => v = .int .i64 (r : Nat) | 6 | 7 => v = .bool false | 20 => True | 11 => v = .bool false | _ => True) (fun _ wz => (wz.cell? ⟨m, 1, none⟩ = some (.int .i64 (r : Nat)) ∧ wz.cell? ⟨m, 2, none⟩ = some (.iface ty (ptr e))) ∧ Hid (Fr [] w wz)) (fun _ _ => True) (by kernel_rfl) (by kernel_rfl) (by kernel_rfl) (fun _ _ _ _ h _ => h) ⟨⟨k1, k2⟩, HF1.out.drew⟩ ?hops ?hfin
   case hops =>
    repeat' (first | exact OpsOk.nil | refine OpsOk.cons ?_ ?_)
    all_goals try exact rgT
    ·skip
     intro D X w' K hD hcl hS hI hK
     simp only [afterI, Region.binds, forall_const] at hI
     simp only [putL, pE0, pE1, pE4, pE5, pE6, Nat.reduceAdd, up, Nat.reduceEqDiff, if_true, if_false, reduceIte] at hK ⊢
     try simp only [hI] at hK
     go_simp
     refine (HLN.out _ hS.2.out).mono ?_
     rintro en w3 ⟨rfl, f3⟩
     exact hK.out _ _ rfl ⟨⟨cell_fr f3 hS.1.1 (by simp), cell_fr f3 hS.1.2 (by simp)⟩, hS.2.out.same f3⟩ trivial
   case hfin =>
    intro D X wa hS hD hI
    simp only [putL, pE0, pE1, pE4, pE5, pE6, Nat.reduceAdd]
    have h11 : X 11 = .bool false := hI 11 (by decide)
    rw [h11]
    have HFW := hS.2
    have k2 := hS.1.2
    clear h11 hS hD hI
    go_wp2_with fail
    refine (HAC.out _ HFW.out).mono ?_
    rintro en w2 ⟨v, F', rfl, hgo, b1, b2, b3, _⟩
    have HB := Lib.hid (And.intro b1 (And.intro b2 b3))
    have HGO := Lib.hid hgo
    obtain ⟨va, vc, hv⟩ := hgo.1.form
    obtain ⟨nl, hnl⟩ : ∃ n, l.length = n := ⟨_, rfl⟩
    rw [hnl] at hv
    subst hv
    clear hgo b1 b2 b3 hnl
    go_wp2_with (at_builtin; refine app_list rfl _ _ rfl (.slice none 0 0) (.slice va nl vc) [] l rfl rfl ?hsl ?src ?hb ?_)
    case hsl => exact (Gone.nil w2 w2).1
    case src => exact SS.src HGO.out.1
    case hb => show 0 + l.length ≤ 1000000; omega
    intro b' n' c' w3 hn' happ
    obtain ⟨g1, g2⟩ := happ.new (Fr.refl [] w2) (Gone.nil w2 w2).2
    have HG1 := Lib.hid (And.intro g1 g2)
    clear happ g1 g2 hn'
    go_wp2
    go_ret
    obtain ⟨g1, g2⟩ := HG1.out
    obtain ⟨b1, b2, b3⟩ := HB.out
    obtain ⟨F'', c1, c2, c3⟩ := HFIN.out _ _ _ HFW.out b1 b2 b3
    exact ⟨_, rfl, g1.old (Nat.le_trans HFW.out.size b3.size), F'', c1.fr0 g2, c2, c3.trans g2 (fun y hy _ => hy) (fun y hy _ => by cases hy)⟩
end
end Go.Proofs.YtphlancijlljcaaGreat
