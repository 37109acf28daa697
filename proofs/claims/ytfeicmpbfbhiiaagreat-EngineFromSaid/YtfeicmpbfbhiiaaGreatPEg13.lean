/- Texts of a proof about the given program, those parts that this claim reaches. -/
import Derived.WalkKit
import Derived.Maps.RangeWalk
import Derived.Deep.RegionHeld3
import Derived.Test.YtfeicmpbfbhiiaaGreatPEg12
set_option linter.unusedVariables false
set_option linter.unusedSimpArgs false
namespace Go.Proofs.YtfeicmpbfbhiiaaGreat
section
variable {P : Program} {ops : Array Oper} {Q : Exit → Act → World → Prop} {md : Region.Mode} {S : World → Prop} {z : Nat}
def wpAnyL (P : Program) (md : Region.Mode) (ops : Array Oper) (Q : Exit → Act → World → Prop) (S : World → Prop) (z : Nat) : Nat → Array Bool → Act → World → Prop
 | 0, listed, a, w => Region.ready md ops listed = [] ∧ Q .normal a w
 | fuel + 1, listed, a, w => (Region.ready md ops listed = [] → Q .normal a w) ∧
  ∀ i ∈ Region.ready md ops listed, wpOp P ops Q i (fun a' w' => (i ≠ z → S w') ∧ wpAnyL P md ops Q S z fuel (listed.setIfInBounds i true) a' w') a w
/-- z waits for i. -/
def waits (md : Region.Mode) (ops : Array Oper) (z i : Nat) : Bool := match ops[z]? with | some o => o.after.any (fun e => Region.binds md e && e.on == i) | none => false
def AllReadyL (P : Program) (md : Region.Mode) (ops : Array Oper) (Q : Exit → Act → World → Prop) (S : World → Prop) (z fuel : Nat) (listed : Array Bool) (a : Act) (w : World) (rs : List Nat) : Prop :=
 ∀ i ∈ rs, wpOp P ops Q i (fun a' w' => (i ≠ z → S w') ∧ wpAnyL P md ops Q S z fuel (listed.setIfInBounds i true) a' w') a w
theorem AllReadyL.nil {fuel : Nat} {listed : Array Bool} {a : Act} {w : World} : AllReadyL P md ops Q S z fuel listed a w [] := fun _ h => by cases h
theorem AllReadyL.cons {fuel : Nat} {listed : Array Bool} {a : Act} {w : World} {i : Nat} {o : Oper} {rs : List Nat} (ho : ops[i]? = some o)
  (h : ∀ K' : Act → World → Prop, Shut (∀ a w, S w → (S w → wpAnyL P md ops Q S z fuel (listed.setIfInBounds i true) a w) → K' a w) → if Region.wanted o (yielded ops a.tmps) = true then Oper.wp P o a w K' Q else K' (a.put o.dst undef) w)
  (hs : AllReadyL P md ops Q S z fuel listed a w rs) : AllReadyL P md ops Q S z fuel listed a w (i :: rs) := fun j hj => by
 rcases List.mem_cons.1 hj with rfl | hj
 ·exact wpOp_step ho (fun K' hK => h K' (fun a w hS hW => hK a w ⟨fun _ => hS, hW hS⟩))
 ·exact hs j hj
theorem AllReadyL.last {fuel : Nat} {listed : Array Bool} {a : Act} {w : World} {o : Oper} (ho : ops[z]? = some o)
  (h : ∀ K' : Act → World → Prop, Shut (∀ a w, wpAnyL P md ops Q S z fuel (listed.setIfInBounds z true) a w → K' a w) → if Region.wanted o (yielded ops a.tmps) = true then Oper.wp P o a w K' Q else K' (a.put o.dst undef) w) :
  AllReadyL P md ops Q S z fuel listed a w [z] := fun j hj => by
 simp at hj
 subst hj
 exact wpOp_step ho (fun K' hK => h K' (fun a w hW => hK a w ⟨fun h => absurd rfl h, hW⟩))
end
end Go.Proofs.YtfeicmpbfbhiiaaGreat
set_option linter.unusedVariables false
set_option linter.unusedSimpArgs false
namespace Go.Proofs.YtfeicmpbfbhiiaaGreat
open Go.RowKit
/-- A block of rows and more cells. -/
def ERows (IR : IRT) (k : Nat) (T : TypeId) (w : World) (e g cap x : Nat) (F : List Nat) (K : Rows) (rest : List Value) : Prop :=
 ∃ F1, F = e :: F1 ∧ e ∉ F1 ∧ w.heap[e]? = some (.cells (#[.slice (some ⟨g, 0, none⟩) k cap, .pointer (some ⟨x, 0, none⟩)] ++ rest.toArray) T (0, 0)) ∧
  RRep IR k w (.agg #[.slice (some ⟨g, 0, none⟩) k cap, .pointer (some ⟨x, 0, none⟩)]) F1 K
/-- What is left behind a change of an engine's rows. -/
def EGo (IR : IRT) (k : Nat) (T : TypeId) (w : World) (e g cap x : Nat) (F : List Nat) (K : Rows) (rest : List Value) (w' : World) : Prop := ∃ F', ERows IR k T w' e g cap x F' K rest ∧ Sub F' F w ∧ Fr F w w'
section
variable {IR : IRT} {k : Nat} {T : TypeId} {w w' w0 w1 w2 : World} {e g cap x : Nat} {F F1 G : List Nat} {K K' : Rows} {rest : List Value}
theorem ERows.fr (o : IRok IR) (h : ERows IR k T w e g cap x F K rest) (f : Fr G w w') (hd : Dis F G) : ERows IR k T w' e g cap x F K rest := by
 obtain ⟨F1, rfl, h1, h2, h3⟩ := h
 exact ⟨F1, rfl, h1, f.get h2 (hd e (by simp)), h3.fr o f (fun b hb => hd b (by simp [hb]))⟩
theorem ERows.fr0 (o : IRok IR) (h : ERows IR k T w e g cap x F K rest) (f : Fr [] w w') : ERows IR k T w' e g cap x F K rest := h.fr o f (fun b _ => by simp)
theorem ERows.lt (o : IRok IR) (h : ERows IR k T w e g cap x F K rest) : Lt F w := by
 obtain ⟨F1, rfl, h1, h2, h3⟩ := h
 intro b hb
 rcases List.mem_cons.1 hb with rfl | hb
 ·exact lt_of_block h2
 ·exact h3.lt o b hb
theorem ERows.nd (h : ERows IR k T w e g cap x F K rest) : RNd k K := by
 obtain ⟨F1, rfl, h1, h2, h3⟩ := h
 exact h3.nd
theorem ERows.k0 (h : ERows IR k T w e g cap x F K rest) : w.cell? ⟨e, 0, none⟩ = some (.slice (some ⟨g, 0, none⟩) k cap) := by
 obtain ⟨F1, rfl, h1, h2, h3⟩ := h
 rw [cell_of_block h2]; simp
theorem ERows.k1 (h : ERows IR k T w e g cap x F K rest) : w.cell? ⟨e, 1, none⟩ = some (.pointer (some ⟨x, 0, none⟩)) := by
 obtain ⟨F1, rfl, h1, h2, h3⟩ := h
 rw [cell_of_block h2]; simp
theorem ERows.kr (h : ERows IR k T w e g cap x F K rest) {j : Nat} {u : Value} (hj : rest[j]? = some u) : w.cell? ⟨e, j + 2, none⟩ = some u := by
 obtain ⟨F1, rfl, h1, h2, h3⟩ := h
 rw [cell_of_block h2, Array.getElem?_append_right (by simp)]
 simpa using hj
theorem ERows.kr0 {a : Value} {r : List Value} (h : ERows IR k T w e g cap x F K (a :: r)) : w.cell? ⟨e, 2, none⟩ = some a := h.kr (j := 0) rfl
theorem ERows.kr1 {a b : Value} {r : List Value} (h : ERows IR k T w e g cap x F K (a :: b :: r)) : w.cell? ⟨e, 3, none⟩ = some b := h.kr (j := 1) rfl
theorem ERows.kr2 {a b d : Value} {r : List Value} (h : ERows IR k T w e g cap x F K (a :: b :: d :: r)) : w.cell? ⟨e, 4, none⟩ = some d := h.kr (j := 2) rfl
theorem ERows.kr3 {a b d f : Value} {r : List Value} (h : ERows IR k T w e g cap x F K (a :: b :: d :: f :: r)) : w.cell? ⟨e, 5, none⟩ = some f := h.kr (j := 3) rfl
theorem ERows.kr4 {a b d f i : Value} {r : List Value} (h : ERows IR k T w e g cap x F K (a :: b :: d :: f :: i :: r)) : w.cell? ⟨e, 6, none⟩ = some i := h.kr (j := 4) rfl
theorem ERows.kr5 {a b d f i j : Value} {r : List Value} (h : ERows IR k T w e g cap x F K (a :: b :: d :: f :: i :: j :: r)) : w.cell? ⟨e, 7, none⟩ = some j := h.kr (j := 5) rfl
theorem ERows.fz (h : ERows IR k T w e g cap x F K rest) (j : Nat) : w.frozen? ⟨e, j, none⟩ = false := by
 obtain ⟨F1, rfl, h1, h2, h3⟩ := h
 exact free_of_block h2 j
/-- One of the other cells is written. -/
theorem ERows.set (o : IRok IR) (h : ERows IR k T w e g cap x F K rest) (j : Nat) (u : Value) : ERows IR k T (w.setCell ⟨e, j + 2, none⟩ u) e g cap x F K (rest.set j u) := by
 obtain ⟨F1, rfl, h1, h2, h3⟩ := h
 refine ⟨F1, rfl, h1, ?_, h3.fr o ((Fr.refl [e] w).setCell (by simp) u) (fun b hb hx => by simp at hx; subst hx; exact h1 hb)⟩
 rw [block_set_same h2]
 congr 2
 apply Array.ext'
 simp [List.set_append]
theorem EGo.refl (h : ERows IR k T w e g cap x F K rest) : EGo IR k T w e g cap x F K rest w := ⟨F, h, Sub.refl _ _, Fr.refl _ _⟩
theorem EGo.trans (h1 : Sub F1 F w) (h2 : Fr F w w1) (h : EGo IR k T w1 e g cap x F1 K rest w2) : EGo IR k T w e g cap x F K rest w2 := by
 obtain ⟨F', a1, a2, a3⟩ := h
 exact ⟨F', a1, h1.fr h2 a2, h2.via h1 a3⟩
theorem EGo.old (h : EGo IR k T w e g cap x F K rest w1) (f : Fr [] w0 w) : EGo IR k T w0 e g cap x F K rest w1 := by
 obtain ⟨F', h1, h2, h3⟩ := h
 exact ⟨F', h1, h2.old f.size, f.nil.same h3⟩
theorem EGo.fr (o : IRok IR) (h : EGo IR k T w e g cap x F K rest w1) (f : Fr [] w1 w2) : EGo IR k T w e g cap x F K rest w2 := by
 obtain ⟨F', h1, h2, h3⟩ := h
 exact ⟨F', h1.fr0 o f, h2, h3.same f.nil⟩
theorem EGo.size (h : EGo IR k T w e g cap x F K rest w1) : w.heap.size ≤ w1.heap.size := by
 obtain ⟨F', h1, h2, h3⟩ := h
 exact h3.size
/-- The rows were changed: so was the engine. -/
theorem ERows.step (o : IRok IR) (hn : e ∉ F1) (hb : w.heap[e]? = some (.cells (#[.slice (some ⟨g, 0, none⟩) k cap, .pointer (some ⟨x, 0, none⟩)] ++ rest.toArray) T (0, 0)))
  (h : RowsRet IR k w (.agg #[.slice (some ⟨g, 0, none⟩) k cap, .pointer (some ⟨x, 0, none⟩)]) F1 K' w1) : EGo IR k T w e g cap x (e :: F1) K' rest w1 := by
 obtain ⟨F', h1, h2, h3⟩ := h
 have hl := lt_of_block hb
 refine ⟨e :: F', ⟨F', rfl, fun hx => ?_, h3.get hb hn, h1⟩, fun b hb => ?_, h3.mono fun b hb _ => by simp [hb]⟩
 ·rcases h2 e hx with h | h
  ·exact hn h
  ·omega
 ·rcases List.mem_cons.1 hb with rfl | hb
  ·exact .inl (by simp)
  ·rcases h2 b hb with h | h
   ·exact .inl (by simp [h])
   ·exact .inr h
end
/-- A slice of numbers that the text lays. -/
theorem Rd.lit {W : World} {T : TypeId} {c : Nat} (l : List Nat) : Rd (W.alloc (.cells (l.map fun i => Value.int .i64 (i : Nat)).toArray T)) 1 (.slice (some ⟨W.heap.size, 0, none⟩) l.length c) l.length (l.map fun i => Value.int .i64 (i : Nat)) := by
 refine ⟨by simp, _, _, rfl, .inr ⟨_, _, rfl, fun j u hj => ?_⟩⟩
 rw [cell_of_block (block_alloc_new W _), Nat.zero_add]
 simpa using hj
theorem Rd.lit1 {W : World} {T : TypeId} {c : Nat} (a : Nat) : Rd (W.alloc (.cells #[.int .i64 (a : Nat)] T)) 1 (.slice (some ⟨W.heap.size, 0, none⟩) 1 c) 1 ([a].map fun i => Value.int .i64 (i : Nat)) := Rd.lit [a]
theorem Rd.lit2 {W : World} {T : TypeId} {c : Nat} (a b : Nat) : Rd (W.alloc (.cells #[.int .i64 (a : Nat), .int .i64 (b : Nat)] T)) 1 (.slice (some ⟨W.heap.size, 0, none⟩) 2 c) 2 ([a, b].map fun i => Value.int .i64 (i : Nat)) := Rd.lit [a, b]
theorem Rd.lit3 {W : World} {T : TypeId} {c : Nat} (a b d : Nat) : Rd (W.alloc (.cells #[.int .i64 (a : Nat), .int .i64 (b : Nat), .int .i64 (d : Nat)] T)) 1 (.slice (some ⟨W.heap.size, 0, none⟩) 3 c) 3 ([a, b, d].map fun i => Value.int .i64 (i : Nat)) := Rd.lit [a, b, d]
theorem Rd.lit4 {W : World} {T : TypeId} {c : Nat} (a b d f : Nat) : Rd (W.alloc (.cells #[.int .i64 (a : Nat), .int .i64 (b : Nat), .int .i64 (d : Nat), .int .i64 (f : Nat)] T)) 1 (.slice (some ⟨W.heap.size, 0, none⟩) 4 c) 4 ([a, b, d, f].map fun i => Value.int .i64 (i : Nat)) := Rd.lit [a, b, d, f]
/-- Keys that went, in new memory. -/
def Gone (w : World) (w' : World) (v : Value) (l : List ByteArray) : Prop := Sl w' 9 1 v l.length (l.map Value.string) ∧ Ge w.heap.size v.ownBlock.toList
theorem Gone.nil (w w' : World) : Gone w w' (.slice none 0 0) [] := ⟨Sl.nil _ _ _, by intro b hb; simp [Value.ownBlock] at hb⟩
theorem Gone.old {w0 w w' : World} {v : Value} {l : List ByteArray} (h : Gone w w' v l) (k : w0.heap.size ≤ w.heap.size) : Gone w0 w' v l := ⟨h.1, h.2.mono k⟩
theorem Gone.fr0 {w w' w2 : World} {v : Value} {l : List ByteArray} (h : Gone w w' v l) (f : Fr [] w' w2) : Gone w w2 v l := ⟨h.1.fr f (fun b _ => by simp), h.2⟩
theorem Gone.one (w W : World) (hW : w.heap.size ≤ W.heap.size) (k : ByteArray) (T : TypeId) (hT : T = 9) : Gone w (W.alloc (.cells #[.string k] T)) (.slice (some ⟨W.heap.size, 0, none⟩) 1 1) [k] := by
 subst hT
 exact ⟨Sl.built (size := 1) (e := 9) W #[.string k] 1 rfl (by decide), by intro b hb; simp [Value.ownBlock] at hb; omega⟩
/-- Keys that went are handed back, and the engine was changed. -/
def GRet (IR : IRT) (k : Nat) (T : TypeId) (w : World) (e g cap x : Nat) (F : List Nat) (l : List ByteArray) (K : Rows) (rest : List Value) (en : Ending) (w' : World) : Prop :=
 ∃ v F', en = .returned v ∧ Gone w w' v l ∧ ERows IR k T w' e g cap x F' K rest ∧ Sub F' F w ∧ Fr F w w' ∧ Dis v.ownBlock.toList F'
section
variable {IR : IRT} {k : Nat} {T : TypeId} {w w0 w1 w2 : World} {e g cap x : Nat} {F F1 : List Nat} {K : Rows} {rest : List Value} {l : List ByteArray} {en : Ending}
theorem GRet.nil (h : EGo IR k T w e g cap x F K rest w1) : GRet IR k T w e g cap x F [] K rest (.returned (.slice none 0 0)) w1 := by
 obtain ⟨F', a, b, c⟩ := h
 exact ⟨_, F', rfl, Gone.nil _ _, a, b, c, by intro b hb; simp [Value.ownBlock] at hb⟩
theorem GRet.one (o : IRok IR) (h : EGo IR k T w e g cap x F K rest w1) (key : ByteArray) {T1 : TypeId} (hT : T1 = 9) : GRet IR k T w e g cap x F [key] K rest (.returned (.slice (some ⟨w1.heap.size, 0, none⟩) 1 1)) (w1.alloc (.cells #[.string key] T1)) := by
 obtain ⟨F', a, b, c⟩ := h
 have hl := a.lt o
 refine ⟨_, F', rfl, Gone.one _ _ c.size _ _ hT, a.fr0 o ((Fr.refl [] _).alloc _), b, c.alloc _, ?_⟩
 intro q hq hf
 simp [Value.ownBlock] at hq
 have := hl q hf
 omega
theorem GRet.old (h : GRet IR k T w e g cap x F l K rest en w1) (f : Fr [] w0 w) : GRet IR k T w0 e g cap x F l K rest en w1 := by
 obtain ⟨v, F', a, b, c, d, i, j⟩ := h
 exact ⟨v, F', a, b.old f.size, c, d.old f.size, f.nil.same i, j⟩
theorem GRet.trans (h1 : Sub F1 F w) (h2 : Fr F w w1) (h : GRet IR k T w1 e g cap x F1 l K rest en w2) : GRet IR k T w e g cap x F l K rest en w2 := by
 obtain ⟨v, F', a, b, c, d, i, j⟩ := h
 exact ⟨v, F', a, b.old h2.size, c, h1.fr h2 d, h2.via h1 i, j⟩
/-- The engine is changed further. -/
theorem GRet.then {v : Value} {F2 : List Nat} {K2 : Rows} {rest2 : List Value} (hg : Gone w w1 v l) (hs : Sub F1 F w) (hf : Fr F w w1) (hd : Dis v.ownBlock.toList F1) (he : EGo IR k T w1 e g cap x F1 K2 rest2 w2) :
  ∃ F', Gone w w2 v l ∧ ERows IR k T w2 e g cap x F' K2 rest2 ∧ Sub F' F w ∧ Fr F w w2 ∧ Dis v.ownBlock.toList F' := by
 obtain ⟨F', a, b, c⟩ := he
 exact ⟨F', ⟨hg.1.fr c hd, hg.2⟩, a, hs.fr hf b, hf.via hs c, fun q hq hx => by
  rcases b q hx with h | h
  ·exact hd q hq h
  ·have := hg.1.lt q hq; omega⟩
end
section
variable {T : TypeId} {w : World} {e g cap x : Nat} {F : List Nat} {K : Rows} {rest : List Value}
theorem epushA (H : ERows IRepA 4 T w e g cap x F K rest) (ht : tot 4 K ≤ 80000) {r : Nat} (hr : r < 4) (key : ByteArray) (hk : key.size ≤ maxLen) :
  Calls Tryz.prog 293 #[(.agg #[.slice (some ⟨g, 0, none⟩) 4 cap, .pointer (some ⟨x, 0, none⟩)]), .int .i64 r, .string key] w fun en w' => en = .returned (.tuple #[]) ∧ EGo IRepA 4 T w e g cap x F (pushK K r key) rest w' := by
 obtain ⟨F1, rfl, h1, h2, h3⟩ := H
 refine (rpushA h3 ht hr key hk).mono ?_
 rintro en w' ⟨rfl, h⟩
 exact ⟨rfl, ERows.step irokA h1 h2 h⟩
theorem edropA (H : ERows IRepA 4 T w e g cap x F K rest) (ht : tot 4 K ≤ 80000) (key : ByteArray) (hk : key.size ≤ maxLen) :
  Calls Tryz.prog 299 #[(.agg #[.slice (some ⟨g, 0, none⟩) 4 cap, .pointer (some ⟨x, 0, none⟩)]), .string key] w fun en w' => en = .returned (.tuple #[]) ∧ EGo IRepA 4 T w e g cap x F (dropK K key) rest w' := by
 obtain ⟨F1, rfl, h1, h2, h3⟩ := H
 refine (rdropA h3 ht key hk).mono ?_
 rintro en w' ⟨rfl, h⟩
 exact ⟨rfl, ERows.step irokA h1 h2 h⟩
theorem ewhereA (H : ERows IRepA 4 T w e g cap x F K rest) (key : ByteArray) (hk : key.size ≤ maxLen) :
  Calls Tryz.prog 292 #[(.agg #[.slice (some ⟨g, 0, none⟩) 4 cap, .pointer (some ⟨x, 0, none⟩)]), .string key] w fun en w' => ∃ r : Int, en = .returned (.int .i64 r) ∧ AtRow 4 K key r ∧ Fr [] w w' := by
 obtain ⟨F1, rfl, h1, h2, h3⟩ := H
 exact rwhereA h3 key hk
theorem eoldestA (H : ERows IRepA 4 T w e g cap x F K rest) {r : Nat} (hr : r < 4) :
  Calls Tryz.prog 300 #[(.agg #[.slice (some ⟨g, 0, none⟩) 4 cap, .pointer (some ⟨x, 0, none⟩)]), .int .i64 r] w fun en w' => en = .returned (.string (oldest K r)) ∧ Fr [] w w' := by
 obtain ⟨F1, rfl, h1, h2, h3⟩ := H
 exact roldestA h3 hr
theorem emanyA (H : ERows IRepA 4 T w e g cap x F K rest) (is : List Nat) {vs : Value} (hv : Rd w 1 vs is.length (is.map fun i => Value.int .i64 (i : Nat))) (his : ∀ i, i ∈ is → i < 4) (hl : is.length ≤ 100) :
  Calls Tryz.prog 294 #[(.agg #[.slice (some ⟨g, 0, none⟩) 4 cap, .pointer (some ⟨x, 0, none⟩)]), vs] w fun en w' => en = .returned (.int .i64 ((is.map fun i => (K i).length).sum : Nat)) ∧ Fr [] w w' := by
 obtain ⟨F1, rfl, h1, h2, h3⟩ := H
 exact rmanyA h3 is his hl hv
theorem emany2A (H : ERows IRepA 4 T w e g cap x F K rest) (a b : Nat) (ha : a < 4) (hb : b < 4) {s : Nat} (hs : (K a).length + (K b).length = s) {T0 : TypeId} :
  Calls Tryz.prog 294 #[(.agg #[.slice (some ⟨g, 0, none⟩) 4 cap, .pointer (some ⟨x, 0, none⟩)]), .slice (some ⟨w.heap.size, 0, none⟩) 2 2] (w.alloc (.cells #[.int .i64 (a : Nat), .int .i64 (b : Nat)] T0)) fun en w' => en = .returned (.int .i64 (s : Nat)) ∧ Fr [] w w' := by
 have k := (Fr.refl [] w).alloc (.cells #[.int .i64 (a : Nat), .int .i64 (b : Nat)] T0)
 refine (emanyA (H.fr0 irokA k) [a, b] (Rd.lit2 a b) (by simp; omega) (by simp)).mono ?_
 rintro en w' ⟨rfl, hf⟩
 exact ⟨by rw [← hs]; simp [Int.add_assoc], k.same hf⟩
theorem ekeysA (H : ERows IRepA 4 T w e g cap x F K rest) (is : List Nat) {vs : Value} (hv : Rd w 1 vs is.length (is.map fun i => Value.int .i64 (i : Nat))) (his : ∀ i, i ∈ is → i < 4) (hl : is.length ≤ 100) :
  Calls Tryz.prog 298 #[(.agg #[.slice (some ⟨g, 0, none⟩) 4 cap, .pointer (some ⟨x, 0, none⟩)]), vs] w (SlRet w 9 1 (is.flatMap K).length ((is.flatMap K).map Value.string)) := by
 obtain ⟨F1, rfl, h1, h2, h3⟩ := H
 exact rkeysA h3 is his hl hv
end
section
variable {T : TypeId} {w : World} {e g cap x : Nat} {F : List Nat} {K : Rows} {rest : List Value}
theorem epushQ (H : ERows IRepQ 3 T w e g cap x F K rest) (ht : tot 3 K ≤ 80000) {r : Nat} (hr : r < 3) (key : ByteArray) (hk : key.size ≤ maxLen) :
  Calls Tryz.prog 372 #[(.agg #[.slice (some ⟨g, 0, none⟩) 3 cap, .pointer (some ⟨x, 0, none⟩)]), .int .i64 r, .string key] w fun en w' => en = .returned (.tuple #[]) ∧ EGo IRepQ 3 T w e g cap x F (pushK K r key) rest w' := by
 obtain ⟨F1, rfl, h1, h2, h3⟩ := H
 refine (rpushQ h3 ht hr key hk).mono ?_
 rintro en w' ⟨rfl, h⟩
 exact ⟨rfl, ERows.step irokQ h1 h2 h⟩
theorem ewhereQ (H : ERows IRepQ 3 T w e g cap x F K rest) (key : ByteArray) (hk : key.size ≤ maxLen) :
  Calls Tryz.prog 371 #[(.agg #[.slice (some ⟨g, 0, none⟩) 3 cap, .pointer (some ⟨x, 0, none⟩)]), .string key] w fun en w' => ∃ r : Int, en = .returned (.int .i64 r) ∧ AtRow 3 K key r ∧ Fr [] w w' := by
 obtain ⟨F1, rfl, h1, h2, h3⟩ := H
 exact rwhereQ h3 key hk
theorem emanyQ (H : ERows IRepQ 3 T w e g cap x F K rest) (is : List Nat) {vs : Value} (hv : Rd w 1 vs is.length (is.map fun i => Value.int .i64 (i : Nat))) (his : ∀ i, i ∈ is → i < 3) (hl : is.length ≤ 100) :
  Calls Tryz.prog 375 #[(.agg #[.slice (some ⟨g, 0, none⟩) 3 cap, .pointer (some ⟨x, 0, none⟩)]), vs] w fun en w' => en = .returned (.int .i64 ((is.map fun i => (K i).length).sum : Nat)) ∧ Fr [] w w' := by
 obtain ⟨F1, rfl, h1, h2, h3⟩ := H
 exact rmanyQ h3 is his hl hv
theorem emany2Q (H : ERows IRepQ 3 T w e g cap x F K rest) (a b : Nat) (ha : a < 3) (hb : b < 3) {s : Nat} (hs : (K a).length + (K b).length = s) {T0 : TypeId} :
  Calls Tryz.prog 375 #[(.agg #[.slice (some ⟨g, 0, none⟩) 3 cap, .pointer (some ⟨x, 0, none⟩)]), .slice (some ⟨w.heap.size, 0, none⟩) 2 2] (w.alloc (.cells #[.int .i64 (a : Nat), .int .i64 (b : Nat)] T0)) fun en w' => en = .returned (.int .i64 (s : Nat)) ∧ Fr [] w w' := by
 have k := (Fr.refl [] w).alloc (.cells #[.int .i64 (a : Nat), .int .i64 (b : Nat)] T0)
 refine (emanyQ (H.fr0 irokQ k) [a, b] (Rd.lit2 a b) (by simp; omega) (by simp)).mono ?_
 rintro en w' ⟨rfl, hf⟩
 exact ⟨by rw [← hs]; simp [Int.add_assoc], k.same hf⟩
theorem ekeysQ (H : ERows IRepQ 3 T w e g cap x F K rest) (is : List Nat) {vs : Value} (hv : Rd w 1 vs is.length (is.map fun i => Value.int .i64 (i : Nat))) (his : ∀ i, i ∈ is → i < 3) (hl : is.length ≤ 100) :
  Calls Tryz.prog 377 #[(.agg #[.slice (some ⟨g, 0, none⟩) 3 cap, .pointer (some ⟨x, 0, none⟩)]), vs] w (SlRet w 9 1 (is.flatMap K).length ((is.flatMap K).map Value.string)) := by
 obtain ⟨F1, rfl, h1, h2, h3⟩ := H
 exact rkeysQ h3 is his hl hv
end
section
variable {T : TypeId} {w : World} {e g cap x : Nat} {F : List Nat} {K : Rows} {rest : List Value}
theorem epushU (H : ERows IRepU 3 T w e g cap x F K rest) (ht : tot 3 K ≤ 80000) {r : Nat} (hr : r < 3) (key : ByteArray) (hk : key.size ≤ maxLen) :
  Calls Tryz.prog 397 #[(.agg #[.slice (some ⟨g, 0, none⟩) 3 cap, .pointer (some ⟨x, 0, none⟩)]), .int .i64 r, .string key] w fun en w' => en = .returned (.tuple #[]) ∧ EGo IRepU 3 T w e g cap x F (pushK K r key) rest w' := by
 obtain ⟨F1, rfl, h1, h2, h3⟩ := H
 refine (rpushU h3 ht hr key hk).mono ?_
 rintro en w' ⟨rfl, h⟩
 exact ⟨rfl, ERows.step irokU h1 h2 h⟩
theorem edropU (H : ERows IRepU 3 T w e g cap x F K rest) (ht : tot 3 K ≤ 80000) (key : ByteArray) (hk : key.size ≤ maxLen) :
  Calls Tryz.prog 402 #[(.agg #[.slice (some ⟨g, 0, none⟩) 3 cap, .pointer (some ⟨x, 0, none⟩)]), .string key] w fun en w' => en = .returned (.tuple #[]) ∧ EGo IRepU 3 T w e g cap x F (dropK K key) rest w' := by
 obtain ⟨F1, rfl, h1, h2, h3⟩ := H
 refine (rdropU h3 ht key hk).mono ?_
 rintro en w' ⟨rfl, h⟩
 exact ⟨rfl, ERows.step irokU h1 h2 h⟩
theorem ewhereU (H : ERows IRepU 3 T w e g cap x F K rest) (key : ByteArray) (hk : key.size ≤ maxLen) :
  Calls Tryz.prog 396 #[(.agg #[.slice (some ⟨g, 0, none⟩) 3 cap, .pointer (some ⟨x, 0, none⟩)]), .string key] w fun en w' => ∃ r : Int, en = .returned (.int .i64 r) ∧ AtRow 3 K key r ∧ Fr [] w w' := by
 obtain ⟨F1, rfl, h1, h2, h3⟩ := H
 exact rwhereU h3 key hk
theorem eoldestU (H : ERows IRepU 3 T w e g cap x F K rest) {r : Nat} (hr : r < 3) :
  Calls Tryz.prog 399 #[(.agg #[.slice (some ⟨g, 0, none⟩) 3 cap, .pointer (some ⟨x, 0, none⟩)]), .int .i64 r] w fun en w' => en = .returned (.string (oldest K r)) ∧ Fr [] w w' := by
 obtain ⟨F1, rfl, h1, h2, h3⟩ := H
 exact roldestU h3 hr
theorem emanyU (H : ERows IRepU 3 T w e g cap x F K rest) (is : List Nat) {vs : Value} (hv : Rd w 1 vs is.length (is.map fun i => Value.int .i64 (i : Nat))) (his : ∀ i, i ∈ is → i < 3) (hl : is.length ≤ 100) :
  Calls Tryz.prog 398 #[(.agg #[.slice (some ⟨g, 0, none⟩) 3 cap, .pointer (some ⟨x, 0, none⟩)]), vs] w fun en w' => en = .returned (.int .i64 ((is.map fun i => (K i).length).sum : Nat)) ∧ Fr [] w w' := by
 obtain ⟨F1, rfl, h1, h2, h3⟩ := H
 exact rmanyU h3 is his hl hv
theorem emany3U (H : ERows IRepU 3 T w e g cap x F K rest) (a b d : Nat) (ha : a < 3) (hb : b < 3) (hd : d < 3) {s : Nat} (hs : (K a).length + (K b).length + (K d).length = s) {T0 : TypeId} :
  Calls Tryz.prog 398 #[(.agg #[.slice (some ⟨g, 0, none⟩) 3 cap, .pointer (some ⟨x, 0, none⟩)]), .slice (some ⟨w.heap.size, 0, none⟩) 3 3] (w.alloc (.cells #[.int .i64 (a : Nat), .int .i64 (b : Nat), .int .i64 (d : Nat)] T0)) fun en w' => en = .returned (.int .i64 (s : Nat)) ∧ Fr [] w w' := by
 have k := (Fr.refl [] w).alloc (.cells #[.int .i64 (a : Nat), .int .i64 (b : Nat), .int .i64 (d : Nat)] T0)
 refine (emanyU (H.fr0 irokU k) [a, b, d] (Rd.lit3 a b d) (by simp; omega) (by simp)).mono ?_
 rintro en w' ⟨rfl, hf⟩
 exact ⟨by rw [← hs]; simp [Int.add_assoc], k.same hf⟩
theorem ekeysU (H : ERows IRepU 3 T w e g cap x F K rest) (is : List Nat) {vs : Value} (hv : Rd w 1 vs is.length (is.map fun i => Value.int .i64 (i : Nat))) (his : ∀ i, i ∈ is → i < 3) (hl : is.length ≤ 100) :
  Calls Tryz.prog 403 #[(.agg #[.slice (some ⟨g, 0, none⟩) 3 cap, .pointer (some ⟨x, 0, none⟩)]), vs] w (SlRet w 9 1 (is.flatMap K).length ((is.flatMap K).map Value.string)) := by
 obtain ⟨F1, rfl, h1, h2, h3⟩ := H
 exact rkeysU h3 is his hl hv
end
section
variable {T : TypeId} {w : World} {e g cap x : Nat} {F : List Nat} {K : Rows} {rest : List Value}
theorem epushS (H : ERows IRepS 3 T w e g cap x F K rest) (ht : tot 3 K ≤ 80000) {r : Nat} (hr : r < 3) (key : ByteArray) (hk : key.size ≤ maxLen) :
  Calls Tryz.prog 443 #[(.agg #[.slice (some ⟨g, 0, none⟩) 3 cap, .pointer (some ⟨x, 0, none⟩)]), .int .i64 r, .string key] w fun en w' => en = .returned (.tuple #[]) ∧ EGo IRepS 3 T w e g cap x F (pushK K r key) rest w' := by
 obtain ⟨F1, rfl, h1, h2, h3⟩ := H
 refine (rpushS h3 ht hr key hk).mono ?_
 rintro en w' ⟨rfl, h⟩
 exact ⟨rfl, ERows.step irokS h1 h2 h⟩
theorem ewhereS (H : ERows IRepS 3 T w e g cap x F K rest) (key : ByteArray) (hk : key.size ≤ maxLen) :
  Calls Tryz.prog 433 #[(.agg #[.slice (some ⟨g, 0, none⟩) 3 cap, .pointer (some ⟨x, 0, none⟩)]), .string key] w fun en w' => ∃ r : Int, en = .returned (.int .i64 r) ∧ AtRow 3 K key r ∧ Fr [] w w' := by
 obtain ⟨F1, rfl, h1, h2, h3⟩ := H
 exact rwhereS h3 key hk
theorem eoldestS (H : ERows IRepS 3 T w e g cap x F K rest) {r : Nat} (hr : r < 3) :
  Calls Tryz.prog 444 #[(.agg #[.slice (some ⟨g, 0, none⟩) 3 cap, .pointer (some ⟨x, 0, none⟩)]), .int .i64 r] w fun en w' => en = .returned (.string (oldest K r)) ∧ Fr [] w w' := by
 obtain ⟨F1, rfl, h1, h2, h3⟩ := H
 exact roldestS h3 hr
theorem emanyS (H : ERows IRepS 3 T w e g cap x F K rest) (is : List Nat) {vs : Value} (hv : Rd w 1 vs is.length (is.map fun i => Value.int .i64 (i : Nat))) (his : ∀ i, i ∈ is → i < 3) (hl : is.length ≤ 100) :
  Calls Tryz.prog 435 #[(.agg #[.slice (some ⟨g, 0, none⟩) 3 cap, .pointer (some ⟨x, 0, none⟩)]), vs] w fun en w' => en = .returned (.int .i64 ((is.map fun i => (K i).length).sum : Nat)) ∧ Fr [] w w' := by
 obtain ⟨F1, rfl, h1, h2, h3⟩ := H
 exact rmanyS h3 is his hl hv
theorem emany2S (H : ERows IRepS 3 T w e g cap x F K rest) (a b : Nat) (ha : a < 3) (hb : b < 3) {s : Nat} (hs : (K a).length + (K b).length = s) {T0 : TypeId} :
  Calls Tryz.prog 435 #[(.agg #[.slice (some ⟨g, 0, none⟩) 3 cap, .pointer (some ⟨x, 0, none⟩)]), .slice (some ⟨w.heap.size, 0, none⟩) 2 2] (w.alloc (.cells #[.int .i64 (a : Nat), .int .i64 (b : Nat)] T0)) fun en w' => en = .returned (.int .i64 (s : Nat)) ∧ Fr [] w w' := by
 have k := (Fr.refl [] w).alloc (.cells #[.int .i64 (a : Nat), .int .i64 (b : Nat)] T0)
 refine (emanyS (H.fr0 irokS k) [a, b] (Rd.lit2 a b) (by simp; omega) (by simp)).mono ?_
 rintro en w' ⟨rfl, hf⟩
 exact ⟨by rw [← hs]; simp [Int.add_assoc], k.same hf⟩
theorem ekeysS (H : ERows IRepS 3 T w e g cap x F K rest) (is : List Nat) {vs : Value} (hv : Rd w 1 vs is.length (is.map fun i => Value.int .i64 (i : Nat))) (his : ∀ i, i ∈ is → i < 3) (hl : is.length ≤ 100) :
  Calls Tryz.prog 438 #[(.agg #[.slice (some ⟨g, 0, none⟩) 3 cap, .pointer (some ⟨x, 0, none⟩)]), vs] w (SlRet w 9 1 (is.flatMap K).length ((is.flatMap K).map Value.string)) := by
 obtain ⟨F1, rfl, h1, h2, h3⟩ := H
 exact rkeysS h3 is his hl hv
end
end Go.Proofs.YtfeicmpbfbhiiaaGreat
set_option linter.unusedVariables false
set_option linter.unusedSimpArgs false
namespace Go.Proofs.YtfeicmpbfbhiiaaGreat
open Go.RowKit
attribute [local go_sem ↓] Go.wp_at_zero Go.wp_at_succ
section
variable {w : World} {e g cap x : Nat} {F : List Nat} {K : Rows} {c p : Nat}
end
end Go.Proofs.YtfeicmpbfbhiiaaGreat
