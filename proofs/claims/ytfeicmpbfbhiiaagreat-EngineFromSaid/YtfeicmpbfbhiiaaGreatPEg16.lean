/- Texts of a proof about the given program, those parts that this claim reaches. -/
import Derived.Test.YtfeicmpbfbhiiaaGreatPEg14
import Derived.Test.YtfeicmpbfbhiiaaGreatPEg15
import Derived.Test.YtfeicmpbfbhiiaaGreatPEg13
import Derived.Test.YtfeicmpbfbhiiaaGreatPEg00
set_option linter.unusedVariables false
set_option linter.unusedSimpArgs false
namespace Go.Proofs.YtfeicmpbfbhiiaaGreat
open Go.RowKit
theorem SS.empty (w : World) : SS (w.alloc (.cells #[] 9)) (.slice (some ⟨w.heap.size, 0, none⟩) 0 0) [] := Sl.built (size := 1) (e := 9) w #[] 0 rfl (by decide)
theorem tailS {a : Option Addr} {m c : Nat} {l : List ByteArray} (hl : l ≠ []) (hm : l.length = m) :
  ∃ a2 c2, (∀ w', (Instr.slice 22 (.slice a m c) (some (.int .i64 1)) none none).run Tryz.prog w' = .ok (.slice a2 (m - 1) c2) w') ∧
   ∀ {n : Nat} {T : TypeId} {w : World} {e i : Nat} {F Fx : List Nat} {V : Nat → Value} {X : Nat → RowD} {rest : List Value}, RV n T w e F Fx V X rest → i < n → X i = strR l → V i = .slice a m c → RG n T w e F Fx (up V i (.slice a2 (m - 1) c2)) (up X i (strR l.tail)) rest (w.setCell ⟨e, i, none⟩ (.slice a2 (m - 1) c2)) := by
 obtain ⟨k, r, rfl⟩ := List.exists_cons_of_ne_nil hl
 obtain ⟨i0, hii, hz0, hz1, hz2⟩ := info_parts2 infoStr
 have hm : m = r.length + 1 := by rw [← hm]; rfl
 subst hm
 refine ⟨_, _, fun w' => ?_, fun h hi hX hV => RV.tail h hi hX hV⟩
 have hrun := run_slice_from (P := Tryz.prog) Tryz.underlying22 hii a (r.length + 1) c 1 (by omega) w'
 rw [hz1] at hrun
 simpa using hrun
/-- A struct that is new: its slices are nil. -/
theorem RV.fresh (n : Nat) (T : TypeId) (w : World) (X : Nat → RowD) (rest : List Value) (hX : ∀ i, i < n → (X i).n = 0 ∧ (X i).xs = []) (hr : ∀ u, u ∈ rest → u.ownBlock = none) (cs : Array Value) (hcs : cs = ((List.range n).map (fun _ => Value.slice none 0 0) ++ rest).toArray) :
  RV n T (w.alloc (.cells cs T)) w.heap.size [w.heap.size] [] (fun _ => .slice none 0 0) X rest := by
 subst hcs
 have hown : ∀ (i : Nat) (v : Value), ((List.range n).map (fun _ => Value.slice none 0 0) ++ rest)[i]? = some v → v.ownBlock = none := fun i v h => by
  have hm := List.mem_iff_getElem?.2 ⟨i, h⟩
  rcases List.mem_append.1 hm with q | q
  ·obtain ⟨_, _, rfl⟩ := List.mem_map.1 q; rfl
  ·exact hr v q
 refine ⟨⟨?_, block_alloc_new _ _, fun b hb => by simp at hb; subst hb; simp, by simp, fun i v h q => (by rw [hown i v h] at q; cases q), fun i v b h q => (by rw [hown i v h] at q; cases q), fun i j v u b h _ q => (by rw [hown i v h] at q; cases q)⟩, fun i hi => ?_, hr⟩
 ·have : ((List.range n).map (fun _ => Value.slice none 0 0) ++ rest).flatMap (fun v => v.ownBlock.toList) = [] := by
   rw [List.flatMap_eq_nil_iff]
   intro v hv
   obtain ⟨i, hi⟩ := List.mem_iff_getElem?.1 hv
   rw [hown i v hi]; rfl
  rw [this]; rfl
 ·obtain ⟨h1, h2⟩ := hX i hi
  show Sl _ _ _ _ _ _
  rw [h1, h2]
  exact Sl.nil _ _ _
theorem app_stepY {w : World} {ops : Array Oper} {o : Oper} {a : Act} {tm : Array Value} {Q : Exit → Act → World → Prop} {K : Act → World → Prop} {E : Prop} (s x : Operand) (v vx : Value) (l l2 : List ByteArray) (hv : SS w v l) (hx : Src Tryz.prog 1 22 vx l2.length (l2.map Value.string) w) (hb : l.length + l2.length ≤ 1000000)
  (ht : tm = a.tmps) (hgd : o.guard = none) (ho : o.op = .call { callee := .builtin .append, args := #[s, x], argTypes := #[22, 22] }) (hvs : a.eval s = v) (hvx : a.eval x = vx)
  (h : ∀ b n c w', n = l.length + l2.length → AppS w v (l ++ l2) (.slice b n c) w' → K (a.put o.dst (.slice b n c)) w') : if Region.wanted o (yielded ops tm) = true then Oper.wp Tryz.prog o a w K Q else E := by
 subst ht
 exact app_step hgd s x ho v vx l l2 hvs hvx hv hx hb h
section
variable {n : Nat} {T : TypeId} {w wy : World} {e i j : Nat} {F Fx : List Nat} {V : Nat → Value} {X : Nat → RowD} {rest : List Value} {v1 v2 : Value} {l1 l2 : List ByteArray}
/-- Two rows are others now. -/
theorem RV.cut2 (h : RV n T w e F Fx V X rest) (hi : i < n) (hj : j < n) (f : Fr [] w wy) (g1 : Gone w wy v1 l1) (g2 : Gone w wy v2 l2) (d : Dis v1.ownBlock.toList v2.ownBlock.toList) :
  RG n T w e F Fx (up (up V i v1) j v2) (up (up X i (strR l1)) j (strR l2)) rest ((wy.setCell ⟨e, i, none⟩ v1).setCell ⟨e, j, none⟩ v2) := by
 have he : e < w.heap.size := lt_of_block h.b.blk
 have hx : Lt Fx w := fun b hb => h.lt b (h.b.mem.2 (.inr (.inr hb)))
 have hV : ∀ b, w.heap.size ≤ b → ∀ k, k < n → (V k).ownBlock ≠ some b := fun b hb k hk q => by
  have := h.lt b (h.own hk b (by simp [q])); omega
 have r1 := RG.put ((RG.refl h).fr f) hi (r := strR l1) g1.1 he hx (fun b hb => ⟨g1.2 b (by simp [hb]), hV b (g1.2 b (by simp [hb]))⟩)
 refine RG.put r1 hj (r := strR l2) (Sl.fr g2.1 ((Fr.refl [e] wy).setCell (by simp) v1) (fun b hb hh => ?_)) he hx (fun b hb => ⟨g2.2 b (by simp [hb]), fun k hk => ?_⟩)
 ·simp at hh; subst hh; have := g2.2 _ hb; omega
 ·by_cases q : k = i
  ·subst q; rw [up_same]; exact fun z => d b (by simp [z]) (by simp [hb])
  ·rw [up_other _ _ _ _ q]; exact hV b (g2.2 b (by simp [hb])) k hk
end
def slA : Value → Option Addr | .slice a _ _ => a | _ => none
def slN : Value → Nat | .slice _ n _ => n | _ => 0
def slC : Value → Nat | .slice _ _ c => c | _ => 0
/-- How a region stands that assigns two rows anew. -/
def Two (w : World) (e i j : Nat) (l1 l2 : List ByteArray) (c1 c2 s1 s2 : Bool) (v1 v2 : Value) (wz : World) : Prop :=
 ∃ wy, Fr [] w wy ∧ (c1 = true → Gone w wy v1 l1) ∧ (c2 = true → Gone w wy v2 l2 ∧ Dis v1.ownBlock.toList v2.ownBlock.toList) ∧ (s1 = false → wz = wy) ∧ (s1 = true → s2 = false → wz = wy.setCell ⟨e, i, none⟩ v1) ∧ (s2 = true → wz = (wy.setCell ⟨e, i, none⟩ v1).setCell ⟨e, j, none⟩ v2)
section
variable {w wz w2 : World} {e i j : Nat} {l1 l2 : List ByteArray} {c1 c2 s1 s2 : Bool} {v1 v2 v : Value}
theorem Two.start (f : Fr [] w wz) (v1 v2 : Value) : Two w e i j l1 l2 false false false false v1 v2 wz := ⟨wz, f, fun h => by (cases h), fun h => by (cases h), fun _ => rfl, fun h => by (cases h), fun h => by (cases h)⟩
theorem Two.at0 (h : Two w e i j l1 l2 c1 c2 false false v1 v2 wz) : Fr [] w wz := by
 obtain ⟨wy, f, _, _, h3, _⟩ := h
 rw [h3 rfl]; exact f
theorem Two.one (h : Two w e i j l1 l2 false false false false v1 v2 wz) (g : Gone wz w2 v l1) (f : Fr [] wz w2) : Two w e i j l1 l2 true false false false v v2 w2 := by
 have f0 := h.at0
 exact ⟨w2, f0.same f, fun _ => g.old f0.size, fun h => by (cases h), fun _ => rfl, fun h => by (cases h), fun h => by (cases h)⟩
theorem Two.two (h : Two w e i j l1 l2 true false false false v1 v2 wz) (g : Gone wz w2 v l2) (f : Fr [] wz w2) : Two w e i j l1 l2 true true false false v1 v w2 := by
 have f0 := h.at0
 obtain ⟨wy, _, h1, _, h3, _⟩ := h
 have e := h3 rfl
 subst e
 exact ⟨w2, f0.same f, fun _ => (h1 rfl).fr0 f, fun _ => ⟨g.old f0.size, fun b hb hh => by have := (h1 rfl).1.lt b hb; have := g.2 b hh; omega⟩, fun _ => rfl, fun h => by (cases h), fun h => by (cases h)⟩
theorem Two.set1 (h : Two w e i j l1 l2 true true false false v1 v2 wz) : Two w e i j l1 l2 true true true false v1 v2 (wz.setCell ⟨e, i, none⟩ v1) := by
 obtain ⟨wy, f, h1, h2, h3, _⟩ := h
 have e := h3 rfl
 subst e
 exact ⟨wz, f, h1, h2, fun h => by (cases h), fun _ _ => rfl, fun h => by (cases h)⟩
theorem Two.set2 (h : Two w e i j l1 l2 true true true false v1 v2 wz) : Two w e i j l1 l2 true true true true v1 v2 (wz.setCell ⟨e, j, none⟩ v2) := by
 obtain ⟨wy, f, h1, h2, _, h4, _⟩ := h
 have e := h4 rfl rfl
 subst e
 exact ⟨wy, f, h1, h2, fun h => by (cases h), fun _ h => by (cases h), fun _ => rfl⟩
theorem Two.form1 (h : Two w e i j l1 l2 true c2 s1 s2 v1 v2 wz) : ∃ a n c, v1 = .slice a n c := by
 obtain ⟨wy, f, h1, _⟩ := h
 obtain ⟨a, c, q⟩ := (h1 rfl).1.form
 exact ⟨a, _, c, q⟩
theorem Two.form2 (h : Two w e i j l1 l2 c1 true s1 s2 v1 v2 wz) : ∃ a n c, v2 = .slice a n c := by
 obtain ⟨wy, f, _, h2, _⟩ := h
 obtain ⟨a, c, q⟩ := (h2 rfl).1.1.form
 exact ⟨a, _, c, q⟩
theorem Two.lit1 (h : Two w e i j l1 l2 true c2 s1 s2 v1 v2 wz) : v1 = .slice (slA v1) (slN v1) (slC v1) := by
 obtain ⟨a, n, c, q⟩ := h.form1
 rw [q]; rfl
theorem Two.lit2 (h : Two w e i j l1 l2 c1 true s1 s2 v1 v2 wz) : v2 = .slice (slA v2) (slN v2) (slC v2) := by
 obtain ⟨a, n, c, q⟩ := h.form2
 rw [q]; rfl
theorem Two.at1 (h : Two w e i j l1 l2 true c2 true false v1 v2 wz) (he : e < w.heap.size) (hij : ¬ j = i) : wz.cell? ⟨e, j, none⟩ = w.cell? ⟨e, j, none⟩ ∧ wz.frozen? ⟨e, j, none⟩ = w.frozen? ⟨e, j, none⟩ := by
 obtain ⟨wy, f, _, _, _, h4, _⟩ := h
 rw [h4 rfl rfl]
 have hb := f.block e he (by simp)
 constructor
 ·rw [← World.cell?_of_block (w := w) (w' := wy) hb]
  simp [World.cell?, World.setCell, Array.getElem?_modify]
  cases wy.heap[e]? with
  | none => rfl
  | some o => cases o <;> simp [Ne.symm hij]
 ·rw [← f.frozen (by simp) he]
  simp [World.frozen?, World.setCell, Array.getElem?_modify]
  cases wy.heap[e]? with
  | none => rfl
  | some o => cases o <;> simp
theorem Two.fin {n : Nat} {T : TypeId} {F Fx : List Nat} {V : Nat → Value} {X : Nat → RowD} {rest : List Value} (h : Two w e i j l1 l2 true true true true v1 v2 wz) (r : RV n T w e F Fx V X rest) (hi : i < n) (hj : j < n) :
  RG n T w e F Fx (up (up V i v1) j v2) (up (up X i (strR l1)) j (strR l2)) rest wz := by
 obtain ⟨wy, f, h1, h2, _, _, h5⟩ := h
 rw [h5 rfl]
 exact RV.cut2 r hi hj f (h1 rfl) (h2 rfl).1 (h2 rfl).2
end
end Go.Proofs.YtfeicmpbfbhiiaaGreat
set_option linter.unusedVariables false
set_option linter.unusedSimpArgs false
namespace Go.Proofs.YtfeicmpbfbhiiaaGreat
open Go.RowKit
open Act renaming put → pE0
open List renaming getElem_toArray → pE1, getElem_cons_succ → pE2, getElem_cons_zero → pE3, setIfInBounds_toArray → pE4, set_cons_zero → pE5, set_cons_succ → pE6
attribute [local go_sem ↓] Go.wp_at_zero Go.wp_at_succ
theorem Rd.one {W W0 : World} {B c : Nat} {T : TypeId} (a : Nat) (ai : Int) (hai : ai = (a : Int)) (f : Fr [] (W0.alloc (.cells #[.int .i64 ai] T)) W) (hb : W0.heap.size = B) : Rd W 1 (.slice (some ⟨B, 0, none⟩) 1 c) 1 ([a].map fun i => Value.int .i64 (i : Nat)) := by
 subst hb hai
 refine ⟨rfl, _, _, rfl, .inr ⟨_, _, rfl, fun j u hj => ?_⟩⟩
 refine cell_fr f ?_ (by simp)
 rw [cell_of_block (block_alloc_new W0 _), Nat.zero_add]
 simpa using hj
theorem wq {a b : Nat} (ha : a ≤ 4000) : IntKind.i64.wrap ((a : Int) / (b : Int)) = ((a / b : Nat) : Int) := by
 rw [← Int.natCast_ediv]
 have : a / b ≤ a := Nat.div_le_self _ _
 generalize a / b = q at *
 exact IntWalk.i64_in _ (by omega)
section
variable {w : World} {e g cap x : Nat} {F : List Nat} {K : Rows} {c p : Nat}
end
end Go.Proofs.YtfeicmpbfbhiiaaGreat
set_option linter.unusedVariables false
set_option linter.unusedSimpArgs false
namespace Go.Proofs.YtfeicmpbfbhiiaaGreat
open Go.RowKit
attribute [local go_sem ↓] Go.wp_at_zero Go.wp_at_succ
section
variable {w : World} {e g cap x : Nat} {F : List Nat} {K : Rows} {c p : Nat}
end
/-- An engine of chapter 10. -/
def EArc (w : World) (e : Nat) (F : List Nat) (s : Arc) : Prop := s.Inv ∧ ∃ g cap x, ERows IRepA 4 189 w e g cap x F s.K [.int .i64 s.c, .int .i64 s.p]
theorem EArc.fr {w w' : World} {e : Nat} {F G : List Nat} {s : Arc} (h : EArc w e F s) (f : Fr G w w') (hd : Dis F G) : EArc w' e F s := by
 obtain ⟨hi, g, cap, x, h⟩ := h
 exact ⟨hi, g, cap, x, h.fr irokA f hd⟩
theorem EArc.lt {w : World} {e : Nat} {F : List Nat} {s : Arc} (h : EArc w e F s) : Lt F w := by
 obtain ⟨hi, g, cap, x, h⟩ := h
 exact h.lt irokA
/-- Where an engine of a room begins. -/
def roomN (room : Int) : Nat := (max 1 (min room 1024)).toNat
theorem roomN_bd (room : Int) : 1 ≤ roomN room ∧ roomN room ≤ 1024 := by unfold roomN; omega
def Arc.new (room : Int) : Arc := ⟨fun _ => [], 0, roomN room⟩
theorem Arc.Inv.new (room : Int) : (Arc.new room).Inv := by
 obtain ⟨h1, h2⟩ := roomN_bd room
 exact ⟨RNd.nil 4, h1, h2, Nat.zero_le _, by simp [Arc.new], by simp [Arc.new], by rw [tot4]; simp [Arc.new]⟩
theorem anew_at {w w1 : World} {room v : Int} {F1 : List Nat} {g cap x : Nat} (hr : RRep IRepA 4 w1 (.agg #[.slice (some ⟨g, 0, none⟩) 4 cap, .pointer (some ⟨x, 0, none⟩)]) F1 (fun _ => [])) (hge : Ge w.heap.size F1) (hf1 : Fr [] w w1) (hv : (roomN room : Int) = v) :
  ∃ F, EArc (w1.alloc (.cells #[.slice (some ⟨g, 0, none⟩) 4 cap, .pointer (some ⟨x, 0, none⟩), .int .i64 v, .int .i64 0] 189)) w1.heap.size F (Arc.new room) ∧ Ge w.heap.size F ∧ Fr [] w (w1.alloc (.cells #[.slice (some ⟨g, 0, none⟩) 4 cap, .pointer (some ⟨x, 0, none⟩), .int .i64 v, .int .i64 0] 189)) := by
 subst hv
 refine ⟨w1.heap.size :: F1, ⟨Arc.Inv.new room, g, cap, x, F1, rfl, fun h => ?_, block_alloc_new _ _, hr.fr irokA ((Fr.refl [] _).alloc _) (fun b _ => by simp)⟩, ?_, hf1.alloc _⟩
 ·have := hr.lt irokA _ h; omega
 ·intro b hb
  rcases List.mem_cons.1 hb with rfl | hb
  ·exact hf1.size
  ·exact hge b hb
/-- What New hands back. -/
def NewRet {α : Type} (E : World → Nat → List Nat → α → Prop) (w : World) (s : α) (en : Ending) (w' : World) : Prop :=
 ∃ e F, en = .returned (.pointer (some ⟨e, 0, none⟩)) ∧ E w' e F s ∧ Ge w.heap.size F ∧ Fr [] w w'
theorem anew_ret {w w1 : World} {room v : Int} {F1 : List Nat} {g cap x : Nat} (hr : RRep IRepA 4 w1 (.agg #[.slice (some ⟨g, 0, none⟩) 4 cap, .pointer (some ⟨x, 0, none⟩)]) F1 (fun _ => [])) (hge : Ge w.heap.size F1) (hf1 : Fr [] w w1) (hv : (roomN room : Int) = v) :
  NewRet EArc w (Arc.new room) (.returned (.pointer (some ⟨w1.heap.size, 0, none⟩))) (w1.alloc (.cells #[.slice (some ⟨g, 0, none⟩) 4 cap, .pointer (some ⟨x, 0, none⟩), .int .i64 v, .int .i64 0] 189)) := by
 obtain ⟨F, a, b, d⟩ := anew_at (room := room) hr hge hf1 hv
 exact ⟨_, F, rfl, a, b, d⟩
set_option maxRecDepth 100000 in
theorem anew (w : World) (room : Int) (h0 : -9223372036854775808 ≤ room) (h1 : room ≤ 9223372036854775807) : Calls Tryz.prog 92 #[.int .i64 room] w (NewRet EArc w (Arc.new room)) := by
 go_enter Tryz.func92, Tryz.ntmps92
 go_wp2_with fail
 refine (rnewA _).mono ?_
 rintro en w1 ⟨v, F1, rfl, hr, hge, hf1⟩
 obtain ⟨g, cap, x, rfl, hgl⟩ := hr.form
 have HX := Lib.hid (And.intro hr (And.intro hge hf1))
 clear hr hge hf1
 go_wp2
 all_goals
  go_ret
  obtain ⟨hr, hge, hf1⟩ := HX.out
  refine anew_ret hr hge hf1 ?_
  unfold roomN
  first | omega | (split <;> omega)
end Go.Proofs.YtfeicmpbfbhiiaaGreat
set_option linter.unusedVariables false
set_option linter.unusedSimpArgs false
namespace Go.Proofs.YtfeicmpbfbhiiaaGreat
open Go.RowKit
open Act renaming put → pE0
open List renaming getElem_toArray → pE1, getElem_cons_succ → pE2, getElem_cons_zero → pE3, setIfInBounds_toArray → pE4, set_cons_zero → pE5, set_cons_succ → pE6
attribute [local go_sem ↓] Go.wp_at_zero Go.wp_at_succ
section
variable {w : World} {e g cap x : Nat} {F : List Nat} {K : Rows} {c kin kout : Nat}
end
end Go.Proofs.YtfeicmpbfbhiiaaGreat
set_option linter.unusedVariables false
set_option linter.unusedSimpArgs false
namespace Go.Proofs.YtfeicmpbfbhiiaaGreat
open Go.RowKit
attribute [local go_sem ↓] Go.wp_at_zero Go.wp_at_succ
section
variable {w : World} {e g cap x : Nat} {F : List Nat} {s : Twoq}
end
def EQ (w : World) (e : Nat) (F : List Nat) (s : Twoq) : Prop := s.Inv ∧ ∃ g cap x, ERows IRepQ 3 203 w e g cap x F s.K [.int .i64 (s.c : Nat), .int .i64 (s.kin : Nat), .int .i64 (s.kout : Nat)]
theorem EQ.fr {w w' : World} {e : Nat} {F G : List Nat} {s : Twoq} (h : EQ w e F s) (f : Fr G w w') (hd : Dis F G) : EQ w' e F s := by
 obtain ⟨hi, g, cap, x, h⟩ := h
 exact ⟨hi, g, cap, x, h.fr irokQ f hd⟩
theorem EQ.lt {w : World} {e : Nat} {F : List Nat} {s : Twoq} (h : EQ w e F s) : Lt F w := by
 obtain ⟨hi, g, cap, x, h⟩ := h
 exact h.lt irokQ
section
variable {w : World} {e g cap x : Nat} {F : List Nat} {s : Twoq}
end
def Twoq.new (room : Int) : Twoq := ⟨fun _ => [], roomN room⟩
theorem Twoq.Inv.new (room : Int) : (Twoq.new room).Inv := by
 obtain ⟨h1, h2⟩ := roomN_bd room
 exact ⟨RNd.nil 3, h1, h2, by simp [Twoq.new], by simp [Twoq.new]⟩
theorem qnew_ret {w w1 : World} {room v v1 v2 : Int} {F1 : List Nat} {g cap x : Nat} (hr : RRep IRepQ 3 w1 (.agg #[.slice (some ⟨g, 0, none⟩) 3 cap, .pointer (some ⟨x, 0, none⟩)]) F1 (fun _ => [])) (hge : Ge w.heap.size F1) (hf1 : Fr [] w w1) (hv : (roomN room : Int) = v)
  (hv1 : ((max 1 (roomN room / 4) : Nat) : Int) = v1) (hv2 : ((max 1 (roomN room / 2) : Nat) : Int) = v2) :
  NewRet EQ w (Twoq.new room) (.returned (.pointer (some ⟨w1.heap.size, 0, none⟩))) (w1.alloc (.cells #[.slice (some ⟨g, 0, none⟩) 3 cap, .pointer (some ⟨x, 0, none⟩), .int .i64 v, .int .i64 v1, .int .i64 v2] 203)) := by
 subst hv hv1 hv2
 refine ⟨w1.heap.size, w1.heap.size :: F1, rfl, ⟨Twoq.Inv.new room, g, cap, x, F1, rfl, fun h => ?_, block_alloc_new _ _, hr.fr irokQ ((Fr.refl [] _).alloc _) (fun b _ => by simp)⟩, ?_, hf1.alloc _⟩
 ·have := hr.lt irokQ _ h; omega
 ·intro b hb
  rcases List.mem_cons.1 hb with rfl | hb
  ·exact hf1.size
  ·exact hge b hb
set_option maxRecDepth 100000 in
theorem qnew (w : World) (room : Int) (h0 : -9223372036854775808 ≤ room) (h1 : room ≤ 9223372036854775807) : Calls Tryz.prog 94 #[.int .i64 room] w (NewRet EQ w (Twoq.new room)) := by
 go_enter Tryz.func94, Tryz.ntmps94
 go_wp2_with fail
 all_goals
  refine (rnewQ _).mono ?_
  rintro en w1 ⟨v, F1, rfl, hr, hge, hf1⟩
  obtain ⟨g, cap, x, rfl, hgl⟩ := hr.form
  have HX := Lib.hid (And.intro hr (And.intro hge hf1))
  clear hr hge hf1
 all_goals go_wp2
 all_goals
  go_ret
  obtain ⟨hr, hge, hf1⟩ := HX.out
  refine qnew_ret hr hge hf1 ?_ ?_ ?_
 all_goals
  unfold roomN
  first | omega | (split <;> omega)
end Go.Proofs.YtfeicmpbfbhiiaaGreat
set_option linter.unusedVariables false
set_option linter.unusedSimpArgs false
namespace Go.Proofs.YtfeicmpbfbhiiaaGreat
open Go.RowKit
attribute [local go_sem ↓] Go.wp_at_zero Go.wp_at_succ
/-- Three rows, and the index of the counts. -/
def SR (w : World) (e g cap x y c sm gh : Nat) (F : List Nat) (K : Rows) (C : Cnt) : Prop :=
 ∃ (F1 Fy : List Nat) (n : Nat), F = F1 ++ Fy ∧ ERows IRepS 3 221 w e g cap x F1 K [.int .i64 (c : Nat), .int .i64 (sm : Nat), .int .i64 (gh : Nat), .pointer (some ⟨y, 0, none⟩)] ∧ IRepI w y Fy C n ∧ Dis F1 Fy ∧ n ≤ (K 0).length + (K 1).length ∧ CInv K C
section
variable {w w' w1 w2 w0 : World} {e g cap x y c sm gh : Nat} {F F1 G : List Nat} {K : Rows} {C : Cnt}
theorem SR.fr (h : SR w e g cap x y c sm gh F K C) (f : Fr G w w') (hd : Dis F G) : SR w' e g cap x y c sm gh F K C := by
 obtain ⟨F1, Fy, n, rfl, a, b, d, i, j⟩ := h
 exact ⟨F1, Fy, n, rfl, a.fr irokS f (fun q hq => hd q (by simp [hq])), b.fr f (fun q hq => hd q (by simp [hq])), d, i, j⟩
theorem SR.fr0 (h : SR w e g cap x y c sm gh F K C) (f : Fr [] w w') : SR w' e g cap x y c sm gh F K C := h.fr f (fun b _ => by simp)
theorem SR.lt (h : SR w e g cap x y c sm gh F K C) : Lt F w := by
 obtain ⟨F1, Fy, n, rfl, a, b, d, i, j⟩ := h
 intro q hq
 rcases List.mem_append.1 hq with hq | hq
 ·exact a.lt irokS q hq
 ·exact b.lt q hq
theorem SR.ci (h : SR w e g cap x y c sm gh F K C) : CInv K C := by
 obtain ⟨F1, Fy, n, rfl, a, b, d, i, j⟩ := h
 exact j
def SGo (w : World) (e g cap x y c sm gh : Nat) (F : List Nat) (K : Rows) (C : Cnt) (w' : World) : Prop := ∃ F', SR w' e g cap x y c sm gh F' K C ∧ Sub F' F w ∧ Fr F w w'
theorem SGo.refl (h : SR w e g cap x y c sm gh F K C) : SGo w e g cap x y c sm gh F K C w := ⟨F, h, Sub.refl _ _, Fr.refl _ _⟩
theorem SGo.trans (h1 : Sub F1 F w) (h2 : Fr F w w1) (h : SGo w1 e g cap x y c sm gh F1 K C w2) : SGo w e g cap x y c sm gh F K C w2 := by
 obtain ⟨F', a1, a2, a3⟩ := h
 exact ⟨F', a1, h1.fr h2 a2, h2.via h1 a3⟩
theorem SGo.old (h : SGo w e g cap x y c sm gh F K C w1) (f : Fr [] w0 w) : SGo w0 e g cap x y c sm gh F K C w1 := by
 obtain ⟨F', h1, h2, h3⟩ := h
 exact ⟨F', h1, h2.old f.size, f.nil.same h3⟩
theorem SGo.fr (h : SGo w e g cap x y c sm gh F K C w1) (f : Fr [] w1 w2) : SGo w e g cap x y c sm gh F K C w2 := by
 obtain ⟨F', h1, h2, h3⟩ := h
 exact ⟨F', h1.fr0 f, h2, h3.same f.nil⟩
theorem append_sub {A A' B : List Nat} (h : Sub A' A w) : Sub (A' ++ B) (A ++ B) w := fun q hq => by
 rcases List.mem_append.1 hq with hq | hq
 ·rcases h q hq with h | h
  ·exact .inl (by simp [h])
  ·exact .inr h
 ·exact .inl (by simp [hq])
theorem sub_append {A B B' : List Nat} (h : Sub B' B w) : Sub (A ++ B') (A ++ B) w := fun q hq => by
 rcases List.mem_append.1 hq with hq | hq
 ·exact .inl (by simp [hq])
 ·rcases h q hq with h | h
  ·exact .inl (by simp [h])
  ·exact .inr h
theorem len_comes (hc : CInv K C) {r : Nat} (hr : r < 2) {key : ByteArray} {n : Nat} (hn : n ≤ (K 0).length + (K 1).length) : nPut C key n ≤ (pushK K r key 0).length + (pushK K r key 1).length := by
 unfold nPut
 split
 ·rename_i h
  rcases (hc.is key).1 h with h | h
  ·have d := push_move hc.nd h r
   have d0 := d 0
   have d1 := d 1
   have : r = 0 ∨ r = 1 := by omega
   rcases this with rfl | rfl <;> simp at d0 d1 <;> omega
  ·have d := push_move hc.nd h r
   have d0 := d 0
   have d1 := d 1
   have : r = 0 ∨ r = 1 := by omega
   rcases this with rfl | rfl <;> simp at d0 d1 <;> omega
 ·rename_i h
  have h01 : key ∉ K 0 ∧ key ∉ K 1 := ⟨fun h0 => h ((hc.is key).2 (.inl h0)), fun h0 => h ((hc.is key).2 (.inr h0))⟩
  have p0 := push_len K r 0 key
  have p1 := push_len K r 1 key
  rw [dropK_not h01.1] at p0
  rw [dropK_not h01.2] at p1
  have : r = 0 ∨ r = 1 := by omega
  rcases this with rfl | rfl <;> simp at p0 p1 <;> omega
set_option maxRecDepth 100000 in
theorem scomes (H : SR w e g cap x y c sm gh F K C) (ht : tot 3 K ≤ 70000) {r : Nat} (hr : r < 2) (key : ByteArray) (hz : key.size ≤ maxLen) {n : Nat} (hn : n ≤ 3) :
  Calls Tryz.prog 434 #[.pointer (some ⟨e, 0, none⟩), .int .i64 r, .string key, .int .i64 n] w fun en w' => en = .returned (.tuple #[]) ∧ SGo w e g cap x y c sm gh F (pushK K r key) (upM C key (some n)) w' := by
 obtain ⟨F1, Fy, m, rfl, h, hi, hd, hm, hc⟩ := H
 have k0 := h.k0
 have k1 := h.k1
 have hci : CInv (pushK K r key) (upM C key (some n)) := by
  have : r = 0 ∨ r = 1 := by omega
  rcases this with rfl | rfl
  ·exact hc.toSmall hz hn
  ·exact hc.toMain hz hn
 have hm2 := len_comes hc hr (key := key) hm
 have hmb : m ≤ 70000 := by rw [tot3] at ht; omega
 have HC := Lib.hid (And.intro hci hm2)
 have HI := Lib.hid (And.intro hi hd)
 clear hc hci hm2 hi hd hm
 go_enter Tryz.func434, Tryz.ntmps434
 go_wp2_with fail
 refine (epushS h (by omega) (by omega) key hz).mono ?_
 rintro en w1 ⟨rfl, F2, h2, hs2, hf2⟩
 have k3 := h2.kr3
 obtain ⟨hi, hd⟩ := HI.out
 have hi1 := hi.fr hf2 hd.symm
 have hd1 := hd.sub hs2 hi.lt
 have HX := Lib.hid (And.intro h2 (And.intro hs2 (And.intro hf2 hd1)))
 clear h k0 k1 h2 hs2 hf2 hi hd HI hd1
 go_wp2_with fail
 refine (iputI hi1 (by omega) key hz n).mono ?_
 rintro en w2 ⟨b, Fy2, rfl, hi2, hsy, hfy⟩
 have HY := Lib.hid (And.intro hi2 (And.intro hsy hfy))
 clear hi1 hi2 hsy hfy k3
 go_wp2
 go_end0
 obtain ⟨h2, hs2, hf2, hd1⟩ := HX.out
 obtain ⟨hi2, hsy, hfy⟩ := HY.out
 obtain ⟨hci, hm2⟩ := HC.out
 refine ⟨rfl, F2 ++ Fy2, ⟨F2, Fy2, _, rfl, h2.fr irokS hfy hd1, hi2, (hd1.symm.sub hsy (h2.lt irokS)).symm, hm2, hci⟩, ?_, ?_⟩
 ·exact (append_sub hs2).fr (hf2.mono (fun q hq _ => by simp [hq])) (sub_append hsy)
 ·exact (hf2.mono (fun q hq _ => by simp [hq])).same (hfy.mono (fun q hq _ => by simp [hq]))
/-- How often a key was used. -/
theorem sget (H : SR w e g cap x y c sm gh F K C) (key : ByteArray) (hz : key.size ≤ maxLen) :
  Calls Tryz.prog 235 #[.pointer (some ⟨y, 0, none⟩), .string key] w fun en w' => ∃ b, en = .returned (.tuple #[.int .i64 (cntOf C key : Nat), .bool b]) ∧ Fr [] w w' := by
 obtain ⟨F1, Fy, m, rfl, h, hi, hd, hm, hc⟩ := H
 cases hC : C key with
 | none =>
  refine (igetI_none hi key hz hC).mono ?_
  rintro en w' ⟨rfl, q, rfl⟩
  exact ⟨false, by simp [cntOf, hC], (Fr.refl _ _).drewN q⟩
 | some v =>
  refine (igetI hi key hz hC).mono ?_
  rintro en w' ⟨rfl, q, rfl⟩
  exact ⟨true, by simp [cntOf, hC], (Fr.refl _ _).drewN q⟩
theorem SR.er (H : SR w e g cap x y c sm gh F K C) : ∃ F1, ERows IRepS 3 221 w e g cap x F1 K [.int .i64 (c : Nat), .int .i64 (sm : Nat), .int .i64 (gh : Nat), .pointer (some ⟨y, 0, none⟩)] := by
 obtain ⟨F1, Fy, m, rfl, h, hi, hd, hm, hc⟩ := H
 exact ⟨F1, h⟩
end
end Go.Proofs.YtfeicmpbfbhiiaaGreat
set_option linter.unusedVariables false
set_option linter.unusedSimpArgs false
namespace Go.Proofs.YtfeicmpbfbhiiaaGreat
open Go.RowKit
attribute [local go_sem ↓] Go.wp_at_zero Go.wp_at_succ
section
variable {w w' w1 w2 w0 : World} {e g cap x y c sm gh : Nat} {F F1 G : List Nat} {K : Rows} {C : Cnt}
theorem SR.k0 (H : SR w e g cap x y c sm gh F K C) : w.cell? ⟨e, 0, none⟩ = some (.slice (some ⟨g, 0, none⟩) 3 cap) := by obtain ⟨F1, h⟩ := H.er; exact h.k0
theorem SR.k1 (H : SR w e g cap x y c sm gh F K C) : w.cell? ⟨e, 1, none⟩ = some (.pointer (some ⟨x, 0, none⟩)) := by obtain ⟨F1, h⟩ := H.er; exact h.k1
theorem SR.k2 (H : SR w e g cap x y c sm gh F K C) : w.cell? ⟨e, 2, none⟩ = some (.int .i64 c) := by obtain ⟨F1, h⟩ := H.er; exact h.kr0
theorem SR.k3 (H : SR w e g cap x y c sm gh F K C) : w.cell? ⟨e, 3, none⟩ = some (.int .i64 sm) := by obtain ⟨F1, h⟩ := H.er; exact h.kr1
theorem SR.k4 (H : SR w e g cap x y c sm gh F K C) : w.cell? ⟨e, 4, none⟩ = some (.int .i64 gh) := by obtain ⟨F1, h⟩ := H.er; exact h.kr2
theorem SR.k5 (H : SR w e g cap x y c sm gh F K C) : w.cell? ⟨e, 5, none⟩ = some (.pointer (some ⟨y, 0, none⟩)) := by obtain ⟨F1, h⟩ := H.er; exact h.kr3
theorem SR.oldest (H : SR w e g cap x y c sm gh F K C) {r : Nat} (hr : r < 3) : Calls Tryz.prog 444 #[.agg #[.slice (some ⟨g, 0, none⟩) 3 cap, .pointer (some ⟨x, 0, none⟩)], .int .i64 r] w fun en w' => en = .returned (.string (oldest K r)) ∧ Fr [] w w' := by
 obtain ⟨F1, h⟩ := H.er
 exact eoldestS h hr
end
end Go.Proofs.YtfeicmpbfbhiiaaGreat
set_option linter.unusedVariables false
set_option linter.unusedSimpArgs false
namespace Go.Proofs.YtfeicmpbfbhiiaaGreat
open Go.RowKit
attribute [local go_sem ↓] Go.wp_at_zero Go.wp_at_succ
section
variable {w w' w1 w2 w0 : World} {e g cap x y c sm gh : Nat} {F F1 G : List Nat} {K : Rows} {C : Cnt}
theorem CInv.rows {K' : Rows} (h : CInv K C) (hn : RNd 3 K') (h0 : K' 0 = K 0) (h1 : K' 1 = K 1) : CInv K' C := ⟨hn, fun k => by rw [h0, h1]; exact h.is k, h.le⟩
/-- What the rows' functions do to the ghosts. -/
theorem SR.ghosts {K' : Rows} (hl : (K' 0) = (K 0)) (hl1 : K' 1 = K 1) {F1 Fy : List Nat} {n : Nat} (h : ERows IRepS 3 221 w e g cap x F1 K [.int .i64 (c : Nat), .int .i64 (sm : Nat), .int .i64 (gh : Nat), .pointer (some ⟨y, 0, none⟩)]) (hi : IRepI w y Fy C n) (hd : Dis F1 Fy) (hm : n ≤ (K 0).length + (K 1).length) (hc : CInv K C)
  (hg : EGo IRepS 3 221 w e g cap x F1 K' [.int .i64 (c : Nat), .int .i64 (sm : Nat), .int .i64 (gh : Nat), .pointer (some ⟨y, 0, none⟩)] w') : SGo w e g cap x y c sm gh (F1 ++ Fy) K' C w' := by
 obtain ⟨F2, h2, hs2, hf2⟩ := hg
 exact ⟨F2 ++ Fy, ⟨F2, Fy, n, rfl, h2, hi.fr hf2 hd.symm, hd.sub hs2 hi.lt, by rw [hl, hl1]; exact hm, hc.rows h2.nd hl hl1⟩, append_sub hs2, hf2.mono (fun q hq _ => by simp [hq])⟩
end
end Go.Proofs.YtfeicmpbfbhiiaaGreat
