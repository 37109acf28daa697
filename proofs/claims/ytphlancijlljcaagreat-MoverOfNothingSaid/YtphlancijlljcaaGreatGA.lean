/- Operations of a region that draws its order which their guards pass over: all of them at once. Over any program. -/
import Derived.WalkKit
import Derived.Maps.RangeWalk
import Derived.Deep.RegionHeld3
import Derived.Test.YtphlancijlljcaaGreatRws3
set_option linter.unusedVariables false
set_option linter.unusedSimpArgs false
namespace Go.Proofs.YtphlancijlljcaaGreat
def dstOf (ops : Array Oper) (j : Nat) : Option Tmp := (ops[j]?).bind (·.dst)
def okSkips (md : Region.Mode) (ops : Array Oper) : Array Bool → List Nat → Bool
 | _, [] => true
 | listed, j :: r => (Region.ready md ops listed).contains j && Region.free md ops listed j && okSkips md ops (listed.setIfInBounds j true) r
def unwanted (ops : Array Oper) (tmps : Array Value) (js : List Nat) : Bool := js.all fun j => match ops[j]? with | some o => !(Region.wanted o (yielded ops tmps)) | none => false
/-- What they would have left is there already. -/
def sameAll (ops : Array Oper) (a : Act) : List Nat → Prop
 | [] => True
 | j :: r => a.put (dstOf ops j) undef = a ∧ sameAll ops a r
theorem skipsH {P : Program} {ops : Array Oper} {Q : Exit → Act → World → Prop} {md : Region.Mode} {S : World → Prop} {a : Act} {w : World} (hs : Region.noSelect ops = true) :
  ∀ (js : List Nat) (fuel : Nat) (listed : Array Bool), okSkips md ops listed js = true → unwanted ops a.tmps js = true → sameAll ops a js → (∀ (d : Tmp) c a w, Q (.panic c) (a.put (some d) undef) w → Q (.panic c) a w) → S w →
   wpAnyH P md ops Q S fuel (js.foldl (fun l j => l.setIfInBounds j true) listed) a w → wpAnyH P md ops Q S (fuel + js.length) listed a w
 | [], fuel, listed, h1, h2, h3, hQ, hS, h => h
 | j :: r, fuel, listed, h1, h2, h3, hQ, hS, h => by
  simp only [okSkips, Bool.and_eq_true] at h1
  obtain ⟨⟨hr, hf⟩, h1⟩ := h1
  simp only [unwanted, List.all_cons, Bool.and_eq_true] at h2
  obtain ⟨hw, h2⟩ := h2
  obtain ⟨hp, h3⟩ := h3
  cases ho : ops[j]? with
  | none => rw [ho] at hw; cases hw
  | some o =>
   rw [ho] at hw
   simp only [dstOf, ho, Option.bind_some] at hp
   have ih := skipsH hs r fuel (listed.setIfInBounds j true) h1 h2 h3 hQ hS h
   refine wpAnyH_take (i := j) (v := undef) ho hs hf hr (fun c a w hh => by cases hd : o.dst with | none => (rw [hd] at hh; exact hh) | some d => (rw [hd] at hh; exact hQ d c a w hh)) (.inr ⟨by simpa using hw, rfl⟩) hS ?_
   rw [hp]
   exact ih

/-! A region whose last operation, number z, writes a cell that the region reads: S is asked behind every operation but that one. -/
section
variable {P : Program} {ops : Array Oper} {Q : Exit → Act → World → Prop} {md : Region.Mode} {S : World → Prop} {z : Nat}
def wpAnyL (P : Program) (md : Region.Mode) (ops : Array Oper) (Q : Exit → Act → World → Prop) (S : World → Prop) (z : Nat) : Nat → Array Bool → Act → World → Prop
 | 0, listed, a, w => Region.ready md ops listed = [] ∧ Q .normal a w
 | fuel + 1, listed, a, w => (Region.ready md ops listed = [] → Q .normal a w) ∧
  ∀ i ∈ Region.ready md ops listed, wpOp P ops Q i (fun a' w' => (i ≠ z → S w') ∧ wpAnyL P md ops Q S z fuel (listed.setIfInBounds i true) a' w') a w
theorem wpAny_of_L : ∀ (fuel : Nat) (listed : Array Bool) (a : Act) (w : World), wpAnyL P md ops Q S z fuel listed a w → wpAny P md ops Q fuel listed a w
 | 0, _, _, _, h => h
 | fuel + 1, _, _, _, h => ⟨h.1, fun i hi => wpOp_mono (fun a' w' h' => wpAny_of_L fuel _ a' w' h'.2) (h.2 i hi)⟩
/-- z waits for i. -/
def waits (md : Region.Mode) (ops : Array Oper) (z i : Nat) : Bool := match ops[z]? with | some o => o.after.any (fun e => Region.binds md e && e.on == i) | none => false
theorem waits_listed {i : Nat} {listed : Array Bool} (h : waits md ops z i = true) (hz : z ∈ Region.ready md ops listed) : listed.getD i false = true := by
 obtain ⟨_, o, ho, hall⟩ := mem_ready.1 hz
 unfold waits at h
 rw [ho] at h
 obtain ⟨e, he, hb⟩ := Array.any_eq_true'.1 h
 simp only [Bool.and_eq_true, beq_iff_eq] at hb
 have := hall e he hb.1
 rw [hb.2] at this
 exact this
theorem takeL {i : Nat} {oi : Oper} {v : Value} (hi : ops[i]? = some oi) (hs : Region.noSelect ops = true) (hw : waits md ops z i = true)
  (hQ : ∀ c a w, Q (.panic c) (a.put oi.dst v) w → Q (.panic c) a w) : ∀ (fuel : Nat) (listed : Array Bool) (a : Act) (w : World),
   (∀ j oj, ops[j]? = some oj → j ≠ i → listed.getD j true = false → (∀ e ∈ oj.after, Region.binds md e = true → e.on ≠ i) → oi.apart ops oj = true) →
   i ∈ Region.ready md ops listed → YieldsIf P ops S oi v a → S w →
   wpAnyL P md ops Q S z fuel (listed.setIfInBounds i true) (a.put oi.dst v) w → wpAnyL P md ops Q S z (fuel + 1) listed a w := by
 have hsel := Region.noSelect_spec hs
 intro fuel
 induction fuel with
 | zero =>
  intro listed a w _ hr hy hS H
  refine ⟨fun h => (by rw [h] at hr; cases hr), fun j hj => ?_⟩
  by_cases hji : j = i
  ·subst hji; exact hy.wpOp hi hS ⟨fun _ => hS, H⟩
  ·have := ready_mono hj hji
   rw [H.1] at this
   cases this
 | succ fuel ih =>
  intro listed a w hfree hr hy hS H
  refine ⟨fun h => (by rw [h] at hr; cases hr), fun j hj => ?_⟩
  by_cases hji : j = i
  ·subst hji; exact hy.wpOp hi hS ⟨fun _ => hS, H⟩
  have hun := (mem_ready.1 hr).1
  have lst : listed.getD i false = true → False := fun h0 => by
   rcases Nat.lt_or_ge i listed.size with h' | h'
   ·simp [h'] at hun h0
    rw [hun] at h0; cases h0
   ·simp [Array.getElem?_eq_none h'] at h0
  have hjz : j ≠ z := by
   rintro rfl
   exact lst (waits_listed hw hj)
  have h1 := H.2 j (ready_mono hj hji)
  obtain ⟨hjun, oj, hoj, hall⟩ := mem_ready.1 hj
  have hnot : ∀ e ∈ oj.after, Region.binds md e = true → e.on ≠ i := fun e he hb heq => lst (by rw [← heq]; exact hall e he hb)
  have h2 := wpOp_putIf hoj (hfree j oj hoj hji hjun hnot) (fun cs b => hsel i oi cs b hi) (fun cs b => hsel j oj cs b hoj) hQ hy h1
  refine wpOp_mono (fun a' w' h3 => ⟨fun _ => h3.2.1 hjz, ih (listed.setIfInBounds j true) a' w' ?_ (ready_mono hr (Ne.symm hji)) h3.1 (h3.2.1 hjz) ?_⟩) h2
  ·intro k ok hk hki hkun hno
   refine hfree k ok hk hki ?_ hno
   by_cases hjk : j = k
   ·subst hjk; exact hjun
   ·rw [getD_set_ne true hjk] at hkun; exact hkun
  ·rw [Array.setIfInBounds_comm _ _ hji]
   exact h3.2.2
theorem wpAnyL_take {i : Nat} {oi : Oper} {v : Value} {fuel : Nat} {listed : Array Bool} {a : Act} {w : World} (hi : ops[i]? = some oi)
  (hs : Region.noSelect ops = true) (hf : Region.free md ops listed i = true) (hr : (Region.ready md ops listed).contains i = true) (hw : waits md ops z i = true)
  (hQ : ∀ c a w, Q (.panic c) (a.put oi.dst v) w → Q (.panic c) a w) (hy : YieldsIf P ops S oi v a) (hS : S w)
  (h : wpAnyL P md ops Q S z fuel (listed.setIfInBounds i true) (a.put oi.dst v) w) : wpAnyL P md ops Q S z (fuel + 1) listed a w :=
 takeL hi hs hw hQ fuel listed a w (Region.free_spec hi hf) (by simpa using hr) hy hS h
def AllReadyL (P : Program) (md : Region.Mode) (ops : Array Oper) (Q : Exit → Act → World → Prop) (S : World → Prop) (z fuel : Nat) (listed : Array Bool) (a : Act) (w : World) (rs : List Nat) : Prop :=
 ∀ i ∈ rs, wpOp P ops Q i (fun a' w' => (i ≠ z → S w') ∧ wpAnyL P md ops Q S z fuel (listed.setIfInBounds i true) a' w') a w
theorem AllReadyL.nil {fuel : Nat} {listed : Array Bool} {a : Act} {w : World} : AllReadyL P md ops Q S z fuel listed a w [] := fun _ h => by cases h
theorem AllReadyL.cons {fuel : Nat} {listed : Array Bool} {a : Act} {w : World} {i : Nat} {o : Oper} {rs : List Nat} (ho : ops[i]? = some o)
  (h : ∀ K' : Act → World → Prop, Shut (∀ a w, S w → (S w → wpAnyL P md ops Q S z fuel (listed.setIfInBounds i true) a w) → K' a w) → if Region.wanted o (yielded ops a.tmps) = true then Oper.wp P o a w K' Q else K' (a.put o.dst undef) w)
  (hs : AllReadyL P md ops Q S z fuel listed a w rs) : AllReadyL P md ops Q S z fuel listed a w (i :: rs) := fun j hj => by
 rcases List.mem_cons.1 hj with rfl | hj
 ·exact wpOp_step ho (fun K' hK => h K' (fun a w hS hW => hK a w ⟨fun _ => hS, hW hS⟩))
 ·exact hs j hj
theorem AllReadyL.last {fuel : Nat} {listed : Array Bool} {a : Act} {w : World} {o : Oper} (ho : ops[z]? = some o)
  (h : ∀ K' : Act → World → Prop, Shut (∀ a w, wpAnyL P md ops Q S z fuel (listed.setIfInBounds z true) a w → K' a w) → if Region.wanted o (yielded ops a.tmps) = true then Oper.wp P o a w K' Q else K' (a.put o.dst undef) w) :
  AllReadyL P md ops Q S z fuel listed a w [z] := fun j hj => by
 simp at hj
 subst hj
 exact wpOp_step ho (fun K' hK => h K' (fun a w hW => hK a w ⟨fun h => absurd rfl h, hW⟩))
theorem wpAnyL_ready {rs : List Nat} {fuel : Nat} {listed : Array Bool} {a : Act} {w : World} (hr : Region.ready md ops listed = rs) (hne : rs ≠ [])
  (h : AllReadyL P md ops Q S z fuel listed a w rs) : wpAnyL P md ops Q S z (fuel + 1) listed a w := ⟨fun h0 => absurd (hr ▸ h0) hne, hr ▸ h⟩
theorem wpAnyL_done {listed : Array Bool} {a : Act} {w : World} (hr : Region.ready md ops listed = []) (h : Q .normal a w) : ∀ fuel, wpAnyL P md ops Q S z fuel listed a w
 | 0 => ⟨hr, h⟩
 | _ + 1 => ⟨fun _ => h, by rw [hr]; simp⟩
/-- One operation, taken first, by its number. -/
theorem tkL (i : Nat) {oi : Oper} {v : Value} {fuel : Nat} {listed : Array Bool} {a : Act} {w : World} (hi : ops[i]? = some oi) (hy : YieldsIf P ops S oi v a)
  (h : wpAnyL P md ops Q S z fuel (listed.setIfInBounds i true) (a.put oi.dst v) w) (hs : Region.noSelect ops = true := by kernel_rfl) (hf : Region.free md ops listed i = true := by kernel_rfl) (hr : (Region.ready md ops listed).contains i = true := by kernel_rfl) (hw : waits md ops z i = true := by kernel_rfl)
  (hQ : ∀ c a w, Q (.panic c) (a.put oi.dst v) w → Q (.panic c) a w := by exact fun _ _ _ h => h) (hS : S w := by assumption) : wpAnyL P md ops Q S z (fuel + 1) listed a w :=
 wpAnyL_take hi hs hf hr hw hQ hy hS h
theorem tkH (i : Nat) {oi : Oper} {v : Value} {fuel : Nat} {listed : Array Bool} {a : Act} {w : World} (hi : ops[i]? = some oi) (hy : YieldsIf P ops S oi v a)
  (h : wpAnyH P md ops Q S fuel (listed.setIfInBounds i true) (a.put oi.dst v) w) (hs : Region.noSelect ops = true := by kernel_rfl) (hf : Region.free md ops listed i = true := by kernel_rfl) (hr : (Region.ready md ops listed).contains i = true := by kernel_rfl)
  (hQ : ∀ c a w, Q (.panic c) (a.put oi.dst v) w → Q (.panic c) a w := by exact fun _ _ _ h => h) (hS : S w := by assumption) : wpAnyH P md ops Q S (fuel + 1) listed a w :=
 wpAnyH_take hi hs hf hr hQ hy hS h
theorem wp_region_L {id : Nat} {a : Act} {w : World} (z : Nat) (S : World → Prop) (hm : P.follows .mixedOrders = true) (hS : S w.drew)
  (h : S w.drew → wpAnyL P .any ops Q S z ops.size (Array.replicate ops.size false) a w.drew) : (Code.region id ops true).wp P Q a w :=
 wp_region_any hm (wpAny_of_L _ _ _ _ (h hS))
end
end Go.Proofs.YtphlancijlljcaaGreat

set_option linter.unusedVariables false
set_option linter.unusedSimpArgs false
namespace Go.Proofs.YtphlancijlljcaaGreat
open Go.RowKit
/-- A block of rows and more cells. -/
def ERows (IR : IRT) (k : Nat) (T : TypeId) (w : World) (e g cap x : Nat) (F : List Nat) (K : Rows) (rest : List Value) : Prop :=
 ∃ F1, F = e :: F1 ∧ e ∉ F1 ∧ w.heap[e]? = some (.cells (#[.slice (some ⟨g, 0, none⟩) k cap, .pointer (some ⟨x, 0, none⟩)] ++ rest.toArray) T (0, 0)) ∧
  RRep IR k w (.agg #[.slice (some ⟨g, 0, none⟩) k cap, .pointer (some ⟨x, 0, none⟩)]) F1 K
/-- What is left behind a change of an engine's rows. -/
def EGo (IR : IRT) (k : Nat) (T : TypeId) (w : World) (e g cap x : Nat) (F : List Nat) (K : Rows) (rest : List Value) (w' : World) : Prop := ∃ F', ERows IR k T w' e g cap x F' K rest ∧ Sub F' F w ∧ Fr F w w'
section
variable {IR : IRT} {k : Nat} {T : TypeId} {w w' w0 w1 w2 : World} {e g cap x : Nat} {F F1 G : List Nat} {K K' : Rows} {rest : List Value}
theorem ERows.fr (o : IRok IR) (h : ERows IR k T w e g cap x F K rest) (f : Fr G w w') (hd : Dis F G) : ERows IR k T w' e g cap x F K rest := by
 obtain ⟨F1, rfl, h1, h2, h3⟩ := h
 exact ⟨F1, rfl, h1, f.get h2 (hd e (by simp)), h3.fr o f (fun b hb => hd b (by simp [hb]))⟩
theorem ERows.fr0 (o : IRok IR) (h : ERows IR k T w e g cap x F K rest) (f : Fr [] w w') : ERows IR k T w' e g cap x F K rest := h.fr o f (fun b _ => by simp)
theorem ERows.lt (o : IRok IR) (h : ERows IR k T w e g cap x F K rest) : Lt F w := by
 obtain ⟨F1, rfl, h1, h2, h3⟩ := h
 intro b hb
 rcases List.mem_cons.1 hb with rfl | hb
 ·exact lt_of_block h2
 ·exact h3.lt o b hb
theorem ERows.nd (h : ERows IR k T w e g cap x F K rest) : RNd k K := by
 obtain ⟨F1, rfl, h1, h2, h3⟩ := h
 exact h3.nd
theorem ERows.k0 (h : ERows IR k T w e g cap x F K rest) : w.cell? ⟨e, 0, none⟩ = some (.slice (some ⟨g, 0, none⟩) k cap) := by
 obtain ⟨F1, rfl, h1, h2, h3⟩ := h
 rw [cell_of_block h2]; simp
theorem ERows.k1 (h : ERows IR k T w e g cap x F K rest) : w.cell? ⟨e, 1, none⟩ = some (.pointer (some ⟨x, 0, none⟩)) := by
 obtain ⟨F1, rfl, h1, h2, h3⟩ := h
 rw [cell_of_block h2]; simp
theorem ERows.kr (h : ERows IR k T w e g cap x F K rest) {j : Nat} {u : Value} (hj : rest[j]? = some u) : w.cell? ⟨e, j + 2, none⟩ = some u := by
 obtain ⟨F1, rfl, h1, h2, h3⟩ := h
 rw [cell_of_block h2, Array.getElem?_append_right (by simp)]
 simpa using hj
theorem ERows.kr0 {a : Value} {r : List Value} (h : ERows IR k T w e g cap x F K (a :: r)) : w.cell? ⟨e, 2, none⟩ = some a := h.kr (j := 0) rfl
theorem ERows.kr1 {a b : Value} {r : List Value} (h : ERows IR k T w e g cap x F K (a :: b :: r)) : w.cell? ⟨e, 3, none⟩ = some b := h.kr (j := 1) rfl
theorem ERows.kr2 {a b d : Value} {r : List Value} (h : ERows IR k T w e g cap x F K (a :: b :: d :: r)) : w.cell? ⟨e, 4, none⟩ = some d := h.kr (j := 2) rfl
theorem ERows.kr3 {a b d f : Value} {r : List Value} (h : ERows IR k T w e g cap x F K (a :: b :: d :: f :: r)) : w.cell? ⟨e, 5, none⟩ = some f := h.kr (j := 3) rfl
theorem ERows.kr4 {a b d f i : Value} {r : List Value} (h : ERows IR k T w e g cap x F K (a :: b :: d :: f :: i :: r)) : w.cell? ⟨e, 6, none⟩ = some i := h.kr (j := 4) rfl
theorem ERows.kr5 {a b d f i j : Value} {r : List Value} (h : ERows IR k T w e g cap x F K (a :: b :: d :: f :: i :: j :: r)) : w.cell? ⟨e, 7, none⟩ = some j := h.kr (j := 5) rfl
theorem ERows.fz (h : ERows IR k T w e g cap x F K rest) (j : Nat) : w.frozen? ⟨e, j, none⟩ = false := by
 obtain ⟨F1, rfl, h1, h2, h3⟩ := h
 exact free_of_block h2 j
/-- One of the other cells is written. -/
theorem ERows.set (o : IRok IR) (h : ERows IR k T w e g cap x F K rest) (j : Nat) (u : Value) : ERows IR k T (w.setCell ⟨e, j + 2, none⟩ u) e g cap x F K (rest.set j u) := by
 obtain ⟨F1, rfl, h1, h2, h3⟩ := h
 refine ⟨F1, rfl, h1, ?_, h3.fr o ((Fr.refl [e] w).setCell (by simp) u) (fun b hb hx => by simp at hx; subst hx; exact h1 hb)⟩
 rw [block_set_same h2]
 congr 2
 apply Array.ext'
 simp [List.set_append]
theorem EGo.refl (h : ERows IR k T w e g cap x F K rest) : EGo IR k T w e g cap x F K rest w := ⟨F, h, Sub.refl _ _, Fr.refl _ _⟩
theorem EGo.trans (h1 : Sub F1 F w) (h2 : Fr F w w1) (h : EGo IR k T w1 e g cap x F1 K rest w2) : EGo IR k T w e g cap x F K rest w2 := by
 obtain ⟨F', a1, a2, a3⟩ := h
 exact ⟨F', a1, h1.fr h2 a2, h2.via h1 a3⟩
theorem EGo.old (h : EGo IR k T w e g cap x F K rest w1) (f : Fr [] w0 w) : EGo IR k T w0 e g cap x F K rest w1 := by
 obtain ⟨F', h1, h2, h3⟩ := h
 exact ⟨F', h1, h2.old f.size, f.nil.same h3⟩
theorem EGo.fr (o : IRok IR) (h : EGo IR k T w e g cap x F K rest w1) (f : Fr [] w1 w2) : EGo IR k T w e g cap x F K rest w2 := by
 obtain ⟨F', h1, h2, h3⟩ := h
 exact ⟨F', h1.fr0 o f, h2, h3.same f.nil⟩
theorem EGo.size (h : EGo IR k T w e g cap x F K rest w1) : w.heap.size ≤ w1.heap.size := by
 obtain ⟨F', h1, h2, h3⟩ := h
 exact h3.size
/-- The rows were changed: so was the engine. -/
theorem ERows.step (o : IRok IR) (hn : e ∉ F1) (hb : w.heap[e]? = some (.cells (#[.slice (some ⟨g, 0, none⟩) k cap, .pointer (some ⟨x, 0, none⟩)] ++ rest.toArray) T (0, 0)))
  (h : RowsRet IR k w (.agg #[.slice (some ⟨g, 0, none⟩) k cap, .pointer (some ⟨x, 0, none⟩)]) F1 K' w1) : EGo IR k T w e g cap x (e :: F1) K' rest w1 := by
 obtain ⟨F', h1, h2, h3⟩ := h
 have hl := lt_of_block hb
 refine ⟨e :: F', ⟨F', rfl, fun hx => ?_, h3.get hb hn, h1⟩, fun b hb => ?_, h3.mono fun b hb _ => by simp [hb]⟩
 ·rcases h2 e hx with h | h
  ·exact hn h
  ·omega
 ·rcases List.mem_cons.1 hb with rfl | hb
  ·exact .inl (by simp)
  ·rcases h2 b hb with h | h
   ·exact .inl (by simp [h])
   ·exact .inr h
end
/-- A slice of numbers that the text lays. -/
theorem Rd.lit {W : World} {T : TypeId} {c : Nat} (l : List Nat) : Rd (W.alloc (.cells (l.map fun i => Value.int .i64 (i : Nat)).toArray T)) 1 (.slice (some ⟨W.heap.size, 0, none⟩) l.length c) l.length (l.map fun i => Value.int .i64 (i : Nat)) := by
 refine ⟨by simp, _, _, rfl, .inr ⟨_, _, rfl, fun j u hj => ?_⟩⟩
 rw [cell_of_block (block_alloc_new W _), Nat.zero_add]
 simpa using hj
theorem Rd.lit1 {W : World} {T : TypeId} {c : Nat} (a : Nat) : Rd (W.alloc (.cells #[.int .i64 (a : Nat)] T)) 1 (.slice (some ⟨W.heap.size, 0, none⟩) 1 c) 1 ([a].map fun i => Value.int .i64 (i : Nat)) := Rd.lit [a]
theorem Rd.lit2 {W : World} {T : TypeId} {c : Nat} (a b : Nat) : Rd (W.alloc (.cells #[.int .i64 (a : Nat), .int .i64 (b : Nat)] T)) 1 (.slice (some ⟨W.heap.size, 0, none⟩) 2 c) 2 ([a, b].map fun i => Value.int .i64 (i : Nat)) := Rd.lit [a, b]
theorem Rd.lit3 {W : World} {T : TypeId} {c : Nat} (a b d : Nat) : Rd (W.alloc (.cells #[.int .i64 (a : Nat), .int .i64 (b : Nat), .int .i64 (d : Nat)] T)) 1 (.slice (some ⟨W.heap.size, 0, none⟩) 3 c) 3 ([a, b, d].map fun i => Value.int .i64 (i : Nat)) := Rd.lit [a, b, d]
theorem Rd.lit4 {W : World} {T : TypeId} {c : Nat} (a b d f : Nat) : Rd (W.alloc (.cells #[.int .i64 (a : Nat), .int .i64 (b : Nat), .int .i64 (d : Nat), .int .i64 (f : Nat)] T)) 1 (.slice (some ⟨W.heap.size, 0, none⟩) 4 c) 4 ([a, b, d, f].map fun i => Value.int .i64 (i : Nat)) := Rd.lit [a, b, d, f]
/-- Keys that went, in new memory. -/
def Gone (w : World) (w' : World) (v : Value) (l : List ByteArray) : Prop := Sl w' 9 1 v l.length (l.map Value.string) ∧ Ge w.heap.size v.ownBlock.toList
theorem Gone.nil (w w' : World) : Gone w w' (.slice none 0 0) [] := ⟨Sl.nil _ _ _, by intro b hb; simp [Value.ownBlock] at hb⟩
theorem Gone.old {w0 w w' : World} {v : Value} {l : List ByteArray} (h : Gone w w' v l) (k : w0.heap.size ≤ w.heap.size) : Gone w0 w' v l := ⟨h.1, h.2.mono k⟩
theorem Gone.fr0 {w w' w2 : World} {v : Value} {l : List ByteArray} (h : Gone w w' v l) (f : Fr [] w' w2) : Gone w w2 v l := ⟨h.1.fr f (fun b _ => by simp), h.2⟩
theorem Gone.one (w W : World) (hW : w.heap.size ≤ W.heap.size) (k : ByteArray) (T : TypeId) (hT : T = 9) : Gone w (W.alloc (.cells #[.string k] T)) (.slice (some ⟨W.heap.size, 0, none⟩) 1 1) [k] := by
 subst hT
 exact ⟨Sl.built (size := 1) (e := 9) W #[.string k] 1 rfl (by decide), by intro b hb; simp [Value.ownBlock] at hb; omega⟩
/-- Keys that went are handed back, and the engine was changed. -/
def GRet (IR : IRT) (k : Nat) (T : TypeId) (w : World) (e g cap x : Nat) (F : List Nat) (l : List ByteArray) (K : Rows) (rest : List Value) (en : Ending) (w' : World) : Prop :=
 ∃ v F', en = .returned v ∧ Gone w w' v l ∧ ERows IR k T w' e g cap x F' K rest ∧ Sub F' F w ∧ Fr F w w' ∧ Dis v.ownBlock.toList F'
section
variable {IR : IRT} {k : Nat} {T : TypeId} {w w0 w1 w2 : World} {e g cap x : Nat} {F F1 : List Nat} {K : Rows} {rest : List Value} {l : List ByteArray} {en : Ending}
theorem GRet.nil (h : EGo IR k T w e g cap x F K rest w1) : GRet IR k T w e g cap x F [] K rest (.returned (.slice none 0 0)) w1 := by
 obtain ⟨F', a, b, c⟩ := h
 exact ⟨_, F', rfl, Gone.nil _ _, a, b, c, by intro b hb; simp [Value.ownBlock] at hb⟩
theorem GRet.one (o : IRok IR) (h : EGo IR k T w e g cap x F K rest w1) (key : ByteArray) {T1 : TypeId} (hT : T1 = 9) : GRet IR k T w e g cap x F [key] K rest (.returned (.slice (some ⟨w1.heap.size, 0, none⟩) 1 1)) (w1.alloc (.cells #[.string key] T1)) := by
 obtain ⟨F', a, b, c⟩ := h
 have hl := a.lt o
 refine ⟨_, F', rfl, Gone.one _ _ c.size _ _ hT, a.fr0 o ((Fr.refl [] _).alloc _), b, c.alloc _, ?_⟩
 intro q hq hf
 simp [Value.ownBlock] at hq
 have := hl q hf
 omega
theorem GRet.old (h : GRet IR k T w e g cap x F l K rest en w1) (f : Fr [] w0 w) : GRet IR k T w0 e g cap x F l K rest en w1 := by
 obtain ⟨v, F', a, b, c, d, i, j⟩ := h
 exact ⟨v, F', a, b.old f.size, c, d.old f.size, f.nil.same i, j⟩
theorem GRet.trans (h1 : Sub F1 F w) (h2 : Fr F w w1) (h : GRet IR k T w1 e g cap x F1 l K rest en w2) : GRet IR k T w e g cap x F l K rest en w2 := by
 obtain ⟨v, F', a, b, c, d, i, j⟩ := h
 exact ⟨v, F', a, b.old h2.size, c, h1.fr h2 d, h2.via h1 i, j⟩
/-- The engine is changed further. -/
theorem GRet.then {v : Value} {F2 : List Nat} {K2 : Rows} {rest2 : List Value} (hg : Gone w w1 v l) (hs : Sub F1 F w) (hf : Fr F w w1) (hd : Dis v.ownBlock.toList F1) (he : EGo IR k T w1 e g cap x F1 K2 rest2 w2) :
  ∃ F', Gone w w2 v l ∧ ERows IR k T w2 e g cap x F' K2 rest2 ∧ Sub F' F w ∧ Fr F w w2 ∧ Dis v.ownBlock.toList F' := by
 obtain ⟨F', a, b, c⟩ := he
 exact ⟨F', ⟨hg.1.fr c hd, hg.2⟩, a, hs.fr hf b, hf.via hs c, fun q hq hx => by
  rcases b q hx with h | h
  ·exact hd q hq h
  ·have := hg.1.lt q hq; omega⟩
end
section
variable {T : TypeId} {w : World} {e g cap x : Nat} {F : List Nat} {K : Rows} {rest : List Value}
theorem epushA (H : ERows IRepA 4 T w e g cap x F K rest) (ht : tot 4 K ≤ 80000) {r : Nat} (hr : r < 4) (key : ByteArray) (hk : key.size ≤ maxLen) :
  Calls Tryz.prog 301 #[(.agg #[.slice (some ⟨g, 0, none⟩) 4 cap, .pointer (some ⟨x, 0, none⟩)]), .int .i64 r, .string key] w fun en w' => en = .returned (.tuple #[]) ∧ EGo IRepA 4 T w e g cap x F (pushK K r key) rest w' := by
 obtain ⟨F1, rfl, h1, h2, h3⟩ := H
 refine (rpushA h3 ht hr key hk).mono ?_
 rintro en w' ⟨rfl, h⟩
 exact ⟨rfl, ERows.step irokA h1 h2 h⟩
theorem edropA (H : ERows IRepA 4 T w e g cap x F K rest) (ht : tot 4 K ≤ 80000) (key : ByteArray) (hk : key.size ≤ maxLen) :
  Calls Tryz.prog 307 #[(.agg #[.slice (some ⟨g, 0, none⟩) 4 cap, .pointer (some ⟨x, 0, none⟩)]), .string key] w fun en w' => en = .returned (.tuple #[]) ∧ EGo IRepA 4 T w e g cap x F (dropK K key) rest w' := by
 obtain ⟨F1, rfl, h1, h2, h3⟩ := H
 refine (rdropA h3 ht key hk).mono ?_
 rintro en w' ⟨rfl, h⟩
 exact ⟨rfl, ERows.step irokA h1 h2 h⟩
theorem ewhereA (H : ERows IRepA 4 T w e g cap x F K rest) (key : ByteArray) (hk : key.size ≤ maxLen) :
  Calls Tryz.prog 300 #[(.agg #[.slice (some ⟨g, 0, none⟩) 4 cap, .pointer (some ⟨x, 0, none⟩)]), .string key] w fun en w' => ∃ r : Int, en = .returned (.int .i64 r) ∧ AtRow 4 K key r ∧ Fr [] w w' := by
 obtain ⟨F1, rfl, h1, h2, h3⟩ := H
 exact rwhereA h3 key hk
theorem eoldestA (H : ERows IRepA 4 T w e g cap x F K rest) {r : Nat} (hr : r < 4) :
  Calls Tryz.prog 308 #[(.agg #[.slice (some ⟨g, 0, none⟩) 4 cap, .pointer (some ⟨x, 0, none⟩)]), .int .i64 r] w fun en w' => en = .returned (.string (oldest K r)) ∧ Fr [] w w' := by
 obtain ⟨F1, rfl, h1, h2, h3⟩ := H
 exact roldestA h3 hr
theorem emanyA (H : ERows IRepA 4 T w e g cap x F K rest) (is : List Nat) {vs : Value} (hv : Rd w 1 vs is.length (is.map fun i => Value.int .i64 (i : Nat))) (his : ∀ i, i ∈ is → i < 4) (hl : is.length ≤ 100) :
  Calls Tryz.prog 302 #[(.agg #[.slice (some ⟨g, 0, none⟩) 4 cap, .pointer (some ⟨x, 0, none⟩)]), vs] w fun en w' => en = .returned (.int .i64 ((is.map fun i => (K i).length).sum : Nat)) ∧ Fr [] w w' := by
 obtain ⟨F1, rfl, h1, h2, h3⟩ := H
 exact rmanyA h3 is his hl hv
theorem emany1A (H : ERows IRepA 4 T w e g cap x F K rest) (a : Nat) (ha : a < 4) {s : Nat} (hs : (K a).length = s) {T0 : TypeId} :
  Calls Tryz.prog 302 #[(.agg #[.slice (some ⟨g, 0, none⟩) 4 cap, .pointer (some ⟨x, 0, none⟩)]), .slice (some ⟨w.heap.size, 0, none⟩) 1 1] (w.alloc (.cells #[.int .i64 (a : Nat)] T0)) fun en w' => en = .returned (.int .i64 (s : Nat)) ∧ Fr [] w w' := by
 have k := (Fr.refl [] w).alloc (.cells #[.int .i64 (a : Nat)] T0)
 refine (emanyA (H.fr0 irokA k) [a] (Rd.lit1 a) (by simpa using ha) (by simp)).mono ?_
 rintro en w' ⟨rfl, hf⟩
 exact ⟨by rw [← hs]; simp [Int.add_assoc], k.same hf⟩
theorem emany2A (H : ERows IRepA 4 T w e g cap x F K rest) (a b : Nat) (ha : a < 4) (hb : b < 4) {s : Nat} (hs : (K a).length + (K b).length = s) {T0 : TypeId} :
  Calls Tryz.prog 302 #[(.agg #[.slice (some ⟨g, 0, none⟩) 4 cap, .pointer (some ⟨x, 0, none⟩)]), .slice (some ⟨w.heap.size, 0, none⟩) 2 2] (w.alloc (.cells #[.int .i64 (a : Nat), .int .i64 (b : Nat)] T0)) fun en w' => en = .returned (.int .i64 (s : Nat)) ∧ Fr [] w w' := by
 have k := (Fr.refl [] w).alloc (.cells #[.int .i64 (a : Nat), .int .i64 (b : Nat)] T0)
 refine (emanyA (H.fr0 irokA k) [a, b] (Rd.lit2 a b) (by simp; omega) (by simp)).mono ?_
 rintro en w' ⟨rfl, hf⟩
 exact ⟨by rw [← hs]; simp [Int.add_assoc], k.same hf⟩
theorem emany3A (H : ERows IRepA 4 T w e g cap x F K rest) (a b d : Nat) (ha : a < 4) (hb : b < 4) (hd : d < 4) {s : Nat} (hs : (K a).length + (K b).length + (K d).length = s) {T0 : TypeId} :
  Calls Tryz.prog 302 #[(.agg #[.slice (some ⟨g, 0, none⟩) 4 cap, .pointer (some ⟨x, 0, none⟩)]), .slice (some ⟨w.heap.size, 0, none⟩) 3 3] (w.alloc (.cells #[.int .i64 (a : Nat), .int .i64 (b : Nat), .int .i64 (d : Nat)] T0)) fun en w' => en = .returned (.int .i64 (s : Nat)) ∧ Fr [] w w' := by
 have k := (Fr.refl [] w).alloc (.cells #[.int .i64 (a : Nat), .int .i64 (b : Nat), .int .i64 (d : Nat)] T0)
 refine (emanyA (H.fr0 irokA k) [a, b, d] (Rd.lit3 a b d) (by simp; omega) (by simp)).mono ?_
 rintro en w' ⟨rfl, hf⟩
 exact ⟨by rw [← hs]; simp [Int.add_assoc], k.same hf⟩
theorem emany4A (H : ERows IRepA 4 T w e g cap x F K rest) (a b d f : Nat) (ha : a < 4) (hb : b < 4) (hd : d < 4) (hf : f < 4) {s : Nat} (hs : (K a).length + (K b).length + (K d).length + (K f).length = s) {T0 : TypeId} :
  Calls Tryz.prog 302 #[(.agg #[.slice (some ⟨g, 0, none⟩) 4 cap, .pointer (some ⟨x, 0, none⟩)]), .slice (some ⟨w.heap.size, 0, none⟩) 4 4] (w.alloc (.cells #[.int .i64 (a : Nat), .int .i64 (b : Nat), .int .i64 (d : Nat), .int .i64 (f : Nat)] T0)) fun en w' => en = .returned (.int .i64 (s : Nat)) ∧ Fr [] w w' := by
 have k := (Fr.refl [] w).alloc (.cells #[.int .i64 (a : Nat), .int .i64 (b : Nat), .int .i64 (d : Nat), .int .i64 (f : Nat)] T0)
 refine (emanyA (H.fr0 irokA k) [a, b, d, f] (Rd.lit4 a b d f) (by simp; omega) (by simp)).mono ?_
 rintro en w' ⟨rfl, hf⟩
 exact ⟨by rw [← hs]; simp [Int.add_assoc], k.same hf⟩
theorem ekeysA (H : ERows IRepA 4 T w e g cap x F K rest) (is : List Nat) {vs : Value} (hv : Rd w 1 vs is.length (is.map fun i => Value.int .i64 (i : Nat))) (his : ∀ i, i ∈ is → i < 4) (hl : is.length ≤ 100) :
  Calls Tryz.prog 306 #[(.agg #[.slice (some ⟨g, 0, none⟩) 4 cap, .pointer (some ⟨x, 0, none⟩)]), vs] w (SlRet w 9 1 (is.flatMap K).length ((is.flatMap K).map Value.string)) := by
 obtain ⟨F1, rfl, h1, h2, h3⟩ := H
 exact rkeysA h3 is his hl hv
end
section
variable {T : TypeId} {w : World} {e g cap x : Nat} {F : List Nat} {K : Rows} {rest : List Value}
theorem epushQ (H : ERows IRepQ 3 T w e g cap x F K rest) (ht : tot 3 K ≤ 80000) {r : Nat} (hr : r < 3) (key : ByteArray) (hk : key.size ≤ maxLen) :
  Calls Tryz.prog 378 #[(.agg #[.slice (some ⟨g, 0, none⟩) 3 cap, .pointer (some ⟨x, 0, none⟩)]), .int .i64 r, .string key] w fun en w' => en = .returned (.tuple #[]) ∧ EGo IRepQ 3 T w e g cap x F (pushK K r key) rest w' := by
 obtain ⟨F1, rfl, h1, h2, h3⟩ := H
 refine (rpushQ h3 ht hr key hk).mono ?_
 rintro en w' ⟨rfl, h⟩
 exact ⟨rfl, ERows.step irokQ h1 h2 h⟩
theorem edropQ (H : ERows IRepQ 3 T w e g cap x F K rest) (ht : tot 3 K ≤ 80000) (key : ByteArray) (hk : key.size ≤ maxLen) :
  Calls Tryz.prog 379 #[(.agg #[.slice (some ⟨g, 0, none⟩) 3 cap, .pointer (some ⟨x, 0, none⟩)]), .string key] w fun en w' => en = .returned (.tuple #[]) ∧ EGo IRepQ 3 T w e g cap x F (dropK K key) rest w' := by
 obtain ⟨F1, rfl, h1, h2, h3⟩ := H
 refine (rdropQ h3 ht key hk).mono ?_
 rintro en w' ⟨rfl, h⟩
 exact ⟨rfl, ERows.step irokQ h1 h2 h⟩
theorem ewhereQ (H : ERows IRepQ 3 T w e g cap x F K rest) (key : ByteArray) (hk : key.size ≤ maxLen) :
  Calls Tryz.prog 377 #[(.agg #[.slice (some ⟨g, 0, none⟩) 3 cap, .pointer (some ⟨x, 0, none⟩)]), .string key] w fun en w' => ∃ r : Int, en = .returned (.int .i64 r) ∧ AtRow 3 K key r ∧ Fr [] w w' := by
 obtain ⟨F1, rfl, h1, h2, h3⟩ := H
 exact rwhereQ h3 key hk
theorem eoldestQ (H : ERows IRepQ 3 T w e g cap x F K rest) {r : Nat} (hr : r < 3) :
  Calls Tryz.prog 382 #[(.agg #[.slice (some ⟨g, 0, none⟩) 3 cap, .pointer (some ⟨x, 0, none⟩)]), .int .i64 r] w fun en w' => en = .returned (.string (oldest K r)) ∧ Fr [] w w' := by
 obtain ⟨F1, rfl, h1, h2, h3⟩ := H
 exact roldestQ h3 hr
theorem emanyQ (H : ERows IRepQ 3 T w e g cap x F K rest) (is : List Nat) {vs : Value} (hv : Rd w 1 vs is.length (is.map fun i => Value.int .i64 (i : Nat))) (his : ∀ i, i ∈ is → i < 3) (hl : is.length ≤ 100) :
  Calls Tryz.prog 381 #[(.agg #[.slice (some ⟨g, 0, none⟩) 3 cap, .pointer (some ⟨x, 0, none⟩)]), vs] w fun en w' => en = .returned (.int .i64 ((is.map fun i => (K i).length).sum : Nat)) ∧ Fr [] w w' := by
 obtain ⟨F1, rfl, h1, h2, h3⟩ := H
 exact rmanyQ h3 is his hl hv
theorem emany1Q (H : ERows IRepQ 3 T w e g cap x F K rest) (a : Nat) (ha : a < 3) {s : Nat} (hs : (K a).length = s) {T0 : TypeId} :
  Calls Tryz.prog 381 #[(.agg #[.slice (some ⟨g, 0, none⟩) 3 cap, .pointer (some ⟨x, 0, none⟩)]), .slice (some ⟨w.heap.size, 0, none⟩) 1 1] (w.alloc (.cells #[.int .i64 (a : Nat)] T0)) fun en w' => en = .returned (.int .i64 (s : Nat)) ∧ Fr [] w w' := by
 have k := (Fr.refl [] w).alloc (.cells #[.int .i64 (a : Nat)] T0)
 refine (emanyQ (H.fr0 irokQ k) [a] (Rd.lit1 a) (by simpa using ha) (by simp)).mono ?_
 rintro en w' ⟨rfl, hf⟩
 exact ⟨by rw [← hs]; simp [Int.add_assoc], k.same hf⟩
theorem emany2Q (H : ERows IRepQ 3 T w e g cap x F K rest) (a b : Nat) (ha : a < 3) (hb : b < 3) {s : Nat} (hs : (K a).length + (K b).length = s) {T0 : TypeId} :
  Calls Tryz.prog 381 #[(.agg #[.slice (some ⟨g, 0, none⟩) 3 cap, .pointer (some ⟨x, 0, none⟩)]), .slice (some ⟨w.heap.size, 0, none⟩) 2 2] (w.alloc (.cells #[.int .i64 (a : Nat), .int .i64 (b : Nat)] T0)) fun en w' => en = .returned (.int .i64 (s : Nat)) ∧ Fr [] w w' := by
 have k := (Fr.refl [] w).alloc (.cells #[.int .i64 (a : Nat), .int .i64 (b : Nat)] T0)
 refine (emanyQ (H.fr0 irokQ k) [a, b] (Rd.lit2 a b) (by simp; omega) (by simp)).mono ?_
 rintro en w' ⟨rfl, hf⟩
 exact ⟨by rw [← hs]; simp [Int.add_assoc], k.same hf⟩
theorem emany3Q (H : ERows IRepQ 3 T w e g cap x F K rest) (a b d : Nat) (ha : a < 3) (hb : b < 3) (hd : d < 3) {s : Nat} (hs : (K a).length + (K b).length + (K d).length = s) {T0 : TypeId} :
  Calls Tryz.prog 381 #[(.agg #[.slice (some ⟨g, 0, none⟩) 3 cap, .pointer (some ⟨x, 0, none⟩)]), .slice (some ⟨w.heap.size, 0, none⟩) 3 3] (w.alloc (.cells #[.int .i64 (a : Nat), .int .i64 (b : Nat), .int .i64 (d : Nat)] T0)) fun en w' => en = .returned (.int .i64 (s : Nat)) ∧ Fr [] w w' := by
 have k := (Fr.refl [] w).alloc (.cells #[.int .i64 (a : Nat), .int .i64 (b : Nat), .int .i64 (d : Nat)] T0)
 refine (emanyQ (H.fr0 irokQ k) [a, b, d] (Rd.lit3 a b d) (by simp; omega) (by simp)).mono ?_
 rintro en w' ⟨rfl, hf⟩
 exact ⟨by rw [← hs]; simp [Int.add_assoc], k.same hf⟩
theorem emany4Q (H : ERows IRepQ 3 T w e g cap x F K rest) (a b d f : Nat) (ha : a < 3) (hb : b < 3) (hd : d < 3) (hf : f < 3) {s : Nat} (hs : (K a).length + (K b).length + (K d).length + (K f).length = s) {T0 : TypeId} :
  Calls Tryz.prog 381 #[(.agg #[.slice (some ⟨g, 0, none⟩) 3 cap, .pointer (some ⟨x, 0, none⟩)]), .slice (some ⟨w.heap.size, 0, none⟩) 4 4] (w.alloc (.cells #[.int .i64 (a : Nat), .int .i64 (b : Nat), .int .i64 (d : Nat), .int .i64 (f : Nat)] T0)) fun en w' => en = .returned (.int .i64 (s : Nat)) ∧ Fr [] w w' := by
 have k := (Fr.refl [] w).alloc (.cells #[.int .i64 (a : Nat), .int .i64 (b : Nat), .int .i64 (d : Nat), .int .i64 (f : Nat)] T0)
 refine (emanyQ (H.fr0 irokQ k) [a, b, d, f] (Rd.lit4 a b d f) (by simp; omega) (by simp)).mono ?_
 rintro en w' ⟨rfl, hf⟩
 exact ⟨by rw [← hs]; simp [Int.add_assoc], k.same hf⟩
theorem ekeysQ (H : ERows IRepQ 3 T w e g cap x F K rest) (is : List Nat) {vs : Value} (hv : Rd w 1 vs is.length (is.map fun i => Value.int .i64 (i : Nat))) (his : ∀ i, i ∈ is → i < 3) (hl : is.length ≤ 100) :
  Calls Tryz.prog 383 #[(.agg #[.slice (some ⟨g, 0, none⟩) 3 cap, .pointer (some ⟨x, 0, none⟩)]), vs] w (SlRet w 9 1 (is.flatMap K).length ((is.flatMap K).map Value.string)) := by
 obtain ⟨F1, rfl, h1, h2, h3⟩ := H
 exact rkeysQ h3 is his hl hv
end
section
variable {T : TypeId} {w : World} {e g cap x : Nat} {F : List Nat} {K : Rows} {rest : List Value}
theorem epushU (H : ERows IRepU 3 T w e g cap x F K rest) (ht : tot 3 K ≤ 80000) {r : Nat} (hr : r < 3) (key : ByteArray) (hk : key.size ≤ maxLen) :
  Calls Tryz.prog 403 #[(.agg #[.slice (some ⟨g, 0, none⟩) 3 cap, .pointer (some ⟨x, 0, none⟩)]), .int .i64 r, .string key] w fun en w' => en = .returned (.tuple #[]) ∧ EGo IRepU 3 T w e g cap x F (pushK K r key) rest w' := by
 obtain ⟨F1, rfl, h1, h2, h3⟩ := H
 refine (rpushU h3 ht hr key hk).mono ?_
 rintro en w' ⟨rfl, h⟩
 exact ⟨rfl, ERows.step irokU h1 h2 h⟩
theorem edropU (H : ERows IRepU 3 T w e g cap x F K rest) (ht : tot 3 K ≤ 80000) (key : ByteArray) (hk : key.size ≤ maxLen) :
  Calls Tryz.prog 408 #[(.agg #[.slice (some ⟨g, 0, none⟩) 3 cap, .pointer (some ⟨x, 0, none⟩)]), .string key] w fun en w' => en = .returned (.tuple #[]) ∧ EGo IRepU 3 T w e g cap x F (dropK K key) rest w' := by
 obtain ⟨F1, rfl, h1, h2, h3⟩ := H
 refine (rdropU h3 ht key hk).mono ?_
 rintro en w' ⟨rfl, h⟩
 exact ⟨rfl, ERows.step irokU h1 h2 h⟩
theorem ewhereU (H : ERows IRepU 3 T w e g cap x F K rest) (key : ByteArray) (hk : key.size ≤ maxLen) :
  Calls Tryz.prog 402 #[(.agg #[.slice (some ⟨g, 0, none⟩) 3 cap, .pointer (some ⟨x, 0, none⟩)]), .string key] w fun en w' => ∃ r : Int, en = .returned (.int .i64 r) ∧ AtRow 3 K key r ∧ Fr [] w w' := by
 obtain ⟨F1, rfl, h1, h2, h3⟩ := H
 exact rwhereU h3 key hk
theorem eoldestU (H : ERows IRepU 3 T w e g cap x F K rest) {r : Nat} (hr : r < 3) :
  Calls Tryz.prog 405 #[(.agg #[.slice (some ⟨g, 0, none⟩) 3 cap, .pointer (some ⟨x, 0, none⟩)]), .int .i64 r] w fun en w' => en = .returned (.string (oldest K r)) ∧ Fr [] w w' := by
 obtain ⟨F1, rfl, h1, h2, h3⟩ := H
 exact roldestU h3 hr
theorem emanyU (H : ERows IRepU 3 T w e g cap x F K rest) (is : List Nat) {vs : Value} (hv : Rd w 1 vs is.length (is.map fun i => Value.int .i64 (i : Nat))) (his : ∀ i, i ∈ is → i < 3) (hl : is.length ≤ 100) :
  Calls Tryz.prog 404 #[(.agg #[.slice (some ⟨g, 0, none⟩) 3 cap, .pointer (some ⟨x, 0, none⟩)]), vs] w fun en w' => en = .returned (.int .i64 ((is.map fun i => (K i).length).sum : Nat)) ∧ Fr [] w w' := by
 obtain ⟨F1, rfl, h1, h2, h3⟩ := H
 exact rmanyU h3 is his hl hv
theorem emany1U (H : ERows IRepU 3 T w e g cap x F K rest) (a : Nat) (ha : a < 3) {s : Nat} (hs : (K a).length = s) {T0 : TypeId} :
  Calls Tryz.prog 404 #[(.agg #[.slice (some ⟨g, 0, none⟩) 3 cap, .pointer (some ⟨x, 0, none⟩)]), .slice (some ⟨w.heap.size, 0, none⟩) 1 1] (w.alloc (.cells #[.int .i64 (a : Nat)] T0)) fun en w' => en = .returned (.int .i64 (s : Nat)) ∧ Fr [] w w' := by
 have k := (Fr.refl [] w).alloc (.cells #[.int .i64 (a : Nat)] T0)
 refine (emanyU (H.fr0 irokU k) [a] (Rd.lit1 a) (by simpa using ha) (by simp)).mono ?_
 rintro en w' ⟨rfl, hf⟩
 exact ⟨by rw [← hs]; simp [Int.add_assoc], k.same hf⟩
theorem emany2U (H : ERows IRepU 3 T w e g cap x F K rest) (a b : Nat) (ha : a < 3) (hb : b < 3) {s : Nat} (hs : (K a).length + (K b).length = s) {T0 : TypeId} :
  Calls Tryz.prog 404 #[(.agg #[.slice (some ⟨g, 0, none⟩) 3 cap, .pointer (some ⟨x, 0, none⟩)]), .slice (some ⟨w.heap.size, 0, none⟩) 2 2] (w.alloc (.cells #[.int .i64 (a : Nat), .int .i64 (b : Nat)] T0)) fun en w' => en = .returned (.int .i64 (s : Nat)) ∧ Fr [] w w' := by
 have k := (Fr.refl [] w).alloc (.cells #[.int .i64 (a : Nat), .int .i64 (b : Nat)] T0)
 refine (emanyU (H.fr0 irokU k) [a, b] (Rd.lit2 a b) (by simp; omega) (by simp)).mono ?_
 rintro en w' ⟨rfl, hf⟩
 exact ⟨by rw [← hs]; simp [Int.add_assoc], k.same hf⟩
theorem emany3U (H : ERows IRepU 3 T w e g cap x F K rest) (a b d : Nat) (ha : a < 3) (hb : b < 3) (hd : d < 3) {s : Nat} (hs : (K a).length + (K b).length + (K d).length = s) {T0 : TypeId} :
  Calls Tryz.prog 404 #[(.agg #[.slice (some ⟨g, 0, none⟩) 3 cap, .pointer (some ⟨x, 0, none⟩)]), .slice (some ⟨w.heap.size, 0, none⟩) 3 3] (w.alloc (.cells #[.int .i64 (a : Nat), .int .i64 (b : Nat), .int .i64 (d : Nat)] T0)) fun en w' => en = .returned (.int .i64 (s : Nat)) ∧ Fr [] w w' := by
 have k := (Fr.refl [] w).alloc (.cells #[.int .i64 (a : Nat), .int .i64 (b : Nat), .int .i64 (d : Nat)] T0)
 refine (emanyU (H.fr0 irokU k) [a, b, d] (Rd.lit3 a b d) (by simp; omega) (by simp)).mono ?_
 rintro en w' ⟨rfl, hf⟩
 exact ⟨by rw [← hs]; simp [Int.add_assoc], k.same hf⟩
theorem emany4U (H : ERows IRepU 3 T w e g cap x F K rest) (a b d f : Nat) (ha : a < 3) (hb : b < 3) (hd : d < 3) (hf : f < 3) {s : Nat} (hs : (K a).length + (K b).length + (K d).length + (K f).length = s) {T0 : TypeId} :
  Calls Tryz.prog 404 #[(.agg #[.slice (some ⟨g, 0, none⟩) 3 cap, .pointer (some ⟨x, 0, none⟩)]), .slice (some ⟨w.heap.size, 0, none⟩) 4 4] (w.alloc (.cells #[.int .i64 (a : Nat), .int .i64 (b : Nat), .int .i64 (d : Nat), .int .i64 (f : Nat)] T0)) fun en w' => en = .returned (.int .i64 (s : Nat)) ∧ Fr [] w w' := by
 have k := (Fr.refl [] w).alloc (.cells #[.int .i64 (a : Nat), .int .i64 (b : Nat), .int .i64 (d : Nat), .int .i64 (f : Nat)] T0)
 refine (emanyU (H.fr0 irokU k) [a, b, d, f] (Rd.lit4 a b d f) (by simp; omega) (by simp)).mono ?_
 rintro en w' ⟨rfl, hf⟩
 exact ⟨by rw [← hs]; simp [Int.add_assoc], k.same hf⟩
theorem ekeysU (H : ERows IRepU 3 T w e g cap x F K rest) (is : List Nat) {vs : Value} (hv : Rd w 1 vs is.length (is.map fun i => Value.int .i64 (i : Nat))) (his : ∀ i, i ∈ is → i < 3) (hl : is.length ≤ 100) :
  Calls Tryz.prog 409 #[(.agg #[.slice (some ⟨g, 0, none⟩) 3 cap, .pointer (some ⟨x, 0, none⟩)]), vs] w (SlRet w 9 1 (is.flatMap K).length ((is.flatMap K).map Value.string)) := by
 obtain ⟨F1, rfl, h1, h2, h3⟩ := H
 exact rkeysU h3 is his hl hv
end
section
variable {T : TypeId} {w : World} {e g cap x : Nat} {F : List Nat} {K : Rows} {rest : List Value}
theorem epushS (H : ERows IRepS 3 T w e g cap x F K rest) (ht : tot 3 K ≤ 80000) {r : Nat} (hr : r < 3) (key : ByteArray) (hk : key.size ≤ maxLen) :
  Calls Tryz.prog 449 #[(.agg #[.slice (some ⟨g, 0, none⟩) 3 cap, .pointer (some ⟨x, 0, none⟩)]), .int .i64 r, .string key] w fun en w' => en = .returned (.tuple #[]) ∧ EGo IRepS 3 T w e g cap x F (pushK K r key) rest w' := by
 obtain ⟨F1, rfl, h1, h2, h3⟩ := H
 refine (rpushS h3 ht hr key hk).mono ?_
 rintro en w' ⟨rfl, h⟩
 exact ⟨rfl, ERows.step irokS h1 h2 h⟩
theorem edropS (H : ERows IRepS 3 T w e g cap x F K rest) (ht : tot 3 K ≤ 80000) (key : ByteArray) (hk : key.size ≤ maxLen) :
  Calls Tryz.prog 451 #[(.agg #[.slice (some ⟨g, 0, none⟩) 3 cap, .pointer (some ⟨x, 0, none⟩)]), .string key] w fun en w' => en = .returned (.tuple #[]) ∧ EGo IRepS 3 T w e g cap x F (dropK K key) rest w' := by
 obtain ⟨F1, rfl, h1, h2, h3⟩ := H
 refine (rdropS h3 ht key hk).mono ?_
 rintro en w' ⟨rfl, h⟩
 exact ⟨rfl, ERows.step irokS h1 h2 h⟩
theorem ewhereS (H : ERows IRepS 3 T w e g cap x F K rest) (key : ByteArray) (hk : key.size ≤ maxLen) :
  Calls Tryz.prog 439 #[(.agg #[.slice (some ⟨g, 0, none⟩) 3 cap, .pointer (some ⟨x, 0, none⟩)]), .string key] w fun en w' => ∃ r : Int, en = .returned (.int .i64 r) ∧ AtRow 3 K key r ∧ Fr [] w w' := by
 obtain ⟨F1, rfl, h1, h2, h3⟩ := H
 exact rwhereS h3 key hk
theorem eoldestS (H : ERows IRepS 3 T w e g cap x F K rest) {r : Nat} (hr : r < 3) :
  Calls Tryz.prog 450 #[(.agg #[.slice (some ⟨g, 0, none⟩) 3 cap, .pointer (some ⟨x, 0, none⟩)]), .int .i64 r] w fun en w' => en = .returned (.string (oldest K r)) ∧ Fr [] w w' := by
 obtain ⟨F1, rfl, h1, h2, h3⟩ := H
 exact roldestS h3 hr
theorem emanyS (H : ERows IRepS 3 T w e g cap x F K rest) (is : List Nat) {vs : Value} (hv : Rd w 1 vs is.length (is.map fun i => Value.int .i64 (i : Nat))) (his : ∀ i, i ∈ is → i < 3) (hl : is.length ≤ 100) :
  Calls Tryz.prog 441 #[(.agg #[.slice (some ⟨g, 0, none⟩) 3 cap, .pointer (some ⟨x, 0, none⟩)]), vs] w fun en w' => en = .returned (.int .i64 ((is.map fun i => (K i).length).sum : Nat)) ∧ Fr [] w w' := by
 obtain ⟨F1, rfl, h1, h2, h3⟩ := H
 exact rmanyS h3 is his hl hv
theorem emany1S (H : ERows IRepS 3 T w e g cap x F K rest) (a : Nat) (ha : a < 3) {s : Nat} (hs : (K a).length = s) {T0 : TypeId} :
  Calls Tryz.prog 441 #[(.agg #[.slice (some ⟨g, 0, none⟩) 3 cap, .pointer (some ⟨x, 0, none⟩)]), .slice (some ⟨w.heap.size, 0, none⟩) 1 1] (w.alloc (.cells #[.int .i64 (a : Nat)] T0)) fun en w' => en = .returned (.int .i64 (s : Nat)) ∧ Fr [] w w' := by
 have k := (Fr.refl [] w).alloc (.cells #[.int .i64 (a : Nat)] T0)
 refine (emanyS (H.fr0 irokS k) [a] (Rd.lit1 a) (by simpa using ha) (by simp)).mono ?_
 rintro en w' ⟨rfl, hf⟩
 exact ⟨by rw [← hs]; simp [Int.add_assoc], k.same hf⟩
theorem emany2S (H : ERows IRepS 3 T w e g cap x F K rest) (a b : Nat) (ha : a < 3) (hb : b < 3) {s : Nat} (hs : (K a).length + (K b).length = s) {T0 : TypeId} :
  Calls Tryz.prog 441 #[(.agg #[.slice (some ⟨g, 0, none⟩) 3 cap, .pointer (some ⟨x, 0, none⟩)]), .slice (some ⟨w.heap.size, 0, none⟩) 2 2] (w.alloc (.cells #[.int .i64 (a : Nat), .int .i64 (b : Nat)] T0)) fun en w' => en = .returned (.int .i64 (s : Nat)) ∧ Fr [] w w' := by
 have k := (Fr.refl [] w).alloc (.cells #[.int .i64 (a : Nat), .int .i64 (b : Nat)] T0)
 refine (emanyS (H.fr0 irokS k) [a, b] (Rd.lit2 a b) (by simp; omega) (by simp)).mono ?_
 rintro en w' ⟨rfl, hf⟩
 exact ⟨by rw [← hs]; simp [Int.add_assoc], k.same hf⟩
theorem emany3S (H : ERows IRepS 3 T w e g cap x F K rest) (a b d : Nat) (ha : a < 3) (hb : b < 3) (hd : d < 3) {s : Nat} (hs : (K a).length + (K b).length + (K d).length = s) {T0 : TypeId} :
  Calls Tryz.prog 441 #[(.agg #[.slice (some ⟨g, 0, none⟩) 3 cap, .pointer (some ⟨x, 0, none⟩)]), .slice (some ⟨w.heap.size, 0, none⟩) 3 3] (w.alloc (.cells #[.int .i64 (a : Nat), .int .i64 (b : Nat), .int .i64 (d : Nat)] T0)) fun en w' => en = .returned (.int .i64 (s : Nat)) ∧ Fr [] w w' := by
 have k := (Fr.refl [] w).alloc (.cells #[.int .i64 (a : Nat), .int .i64 (b : Nat), .int .i64 (d : Nat)] T0)
 refine (emanyS (H.fr0 irokS k) [a, b, d] (Rd.lit3 a b d) (by simp; omega) (by simp)).mono ?_
 rintro en w' ⟨rfl, hf⟩
 exact ⟨by rw [← hs]; simp [Int.add_assoc], k.same hf⟩
theorem emany4S (H : ERows IRepS 3 T w e g cap x F K rest) (a b d f : Nat) (ha : a < 3) (hb : b < 3) (hd : d < 3) (hf : f < 3) {s : Nat} (hs : (K a).length + (K b).length + (K d).length + (K f).length = s) {T0 : TypeId} :
  Calls Tryz.prog 441 #[(.agg #[.slice (some ⟨g, 0, none⟩) 3 cap, .pointer (some ⟨x, 0, none⟩)]), .slice (some ⟨w.heap.size, 0, none⟩) 4 4] (w.alloc (.cells #[.int .i64 (a : Nat), .int .i64 (b : Nat), .int .i64 (d : Nat), .int .i64 (f : Nat)] T0)) fun en w' => en = .returned (.int .i64 (s : Nat)) ∧ Fr [] w w' := by
 have k := (Fr.refl [] w).alloc (.cells #[.int .i64 (a : Nat), .int .i64 (b : Nat), .int .i64 (d : Nat), .int .i64 (f : Nat)] T0)
 refine (emanyS (H.fr0 irokS k) [a, b, d, f] (Rd.lit4 a b d f) (by simp; omega) (by simp)).mono ?_
 rintro en w' ⟨rfl, hf⟩
 exact ⟨by rw [← hs]; simp [Int.add_assoc], k.same hf⟩
theorem ekeysS (H : ERows IRepS 3 T w e g cap x F K rest) (is : List Nat) {vs : Value} (hv : Rd w 1 vs is.length (is.map fun i => Value.int .i64 (i : Nat))) (his : ∀ i, i ∈ is → i < 3) (hl : is.length ≤ 100) :
  Calls Tryz.prog 444 #[(.agg #[.slice (some ⟨g, 0, none⟩) 3 cap, .pointer (some ⟨x, 0, none⟩)]), vs] w (SlRet w 9 1 (is.flatMap K).length ((is.flatMap K).map Value.string)) := by
 obtain ⟨F1, rfl, h1, h2, h3⟩ := H
 exact rkeysS h3 is his hl hv
end
end Go.Proofs.YtphlancijlljcaaGreat

set_option linter.unusedVariables false
set_option linter.unusedSimpArgs false
namespace Go.Proofs.YtphlancijlljcaaGreat
open Go.RowKit
attribute [local go_sem ↓] Go.wp_at_zero Go.wp_at_succ
section
variable {w : World} {e g cap x : Nat} {F : List Nat} {K : Rows} {c p : Nat}
set_option maxRecDepth 100000 in
theorem aousts_false (H : ERows IRepA 4 197 w e g cap x F K [.int .i64 c, .int .i64 p]) (ht : tot 4 K ≤ 70000) :
  Calls Tryz.prog 305 #[.pointer (some ⟨e, 0, none⟩), .bool false] w (GRet IRepA 4 197 w e g cap x F (arcOusts K false).1 (arcOusts K false).2 [.int .i64 c, .int .i64 p]) := by
 have k0 := H.k0
 have k1 := H.k1
 have ho := oldest_sz H.nd 1
 go_enter Tryz.func305, Tryz.ntmps305
 go_wp2_with fail
 refine (eoldestA H (r := 1) (by omega)).mono ?_
 rintro en w1 ⟨rfl, hf1⟩
 have H1 := H.fr0 irokA hf1
 have k0 := H1.k0
 have k1 := H1.k1
 go_wp2_with fail
 refine (epushA H1 (by omega) (r := 3) (by omega) _ ho).mono ?_
 rintro en w2 ⟨rfl, hg⟩
 have hsz := hg.size
 clear H H1 k0 k1
 go_wp2
 go_ret
 exact GRet.one irokA (hg.old hf1) _ rfl
set_option maxRecDepth 100000 in
theorem aousts_true (H : ERows IRepA 4 197 w e g cap x F K [.int .i64 c, .int .i64 p]) (ht : tot 4 K ≤ 70000) :
  Calls Tryz.prog 305 #[.pointer (some ⟨e, 0, none⟩), .bool true] w (GRet IRepA 4 197 w e g cap x F (arcOusts K true).1 (arcOusts K true).2 [.int .i64 c, .int .i64 p]) := by
 have k0 := H.k0
 have k1 := H.k1
 have ho := oldest_sz H.nd 0
 go_enter Tryz.func305, Tryz.ntmps305
 go_wp2_with fail
 refine (eoldestA H (r := 0) (by omega)).mono ?_
 rintro en w1 ⟨rfl, hf1⟩
 have H1 := H.fr0 irokA hf1
 have k0 := H1.k0
 have k1 := H1.k1
 go_wp2_with fail
 refine (epushA H1 (by omega) (r := 2) (by omega) _ ho).mono ?_
 rintro en w2 ⟨rfl, hg⟩
 have hsz := hg.size
 clear H H1 k0 k1
 go_wp2
 go_ret
 exact GRet.one irokA (hg.old hf1) _ rfl
theorem aousts (H : ERows IRepA 4 197 w e g cap x F K [.int .i64 c, .int .i64 p]) (ht : tot 4 K ≤ 70000) (b : Bool) :
  Calls Tryz.prog 305 #[.pointer (some ⟨e, 0, none⟩), .bool b] w (GRet IRepA 4 197 w e g cap x F (arcOusts K b).1 (arcOusts K b).2 [.int .i64 c, .int .i64 p]) := by
 cases b
 ·exact aousts_false H ht
 ·exact aousts_true H ht
set_option maxRecDepth 100000 in
theorem areplaces (H : ERows IRepA 4 197 w e g cap x F K [.int .i64 c, .int .i64 p]) (ht : tot 4 K ≤ 70000) (hc : c ≤ 1024) (hp : p ≤ 1024) (b : Bool) :
  Calls Tryz.prog 303 #[.pointer (some ⟨e, 0, none⟩), .bool b] w (GRet IRepA 4 197 w e g cap x F (arcRepl K p c b).1 (arcRepl K p c b).2 [.int .i64 c, .int .i64 p]) := by
 have k0 := H.k0
 have k1 := H.k1
 have k2 := H.kr (j := 0) rfl
 have k3 := H.kr (j := 1) rfl
 simp only [Nat.zero_add, Nat.reduceAdd] at k2 k3
 have l0 : (K 0).length ≤ 70000 := Nat.le_trans (len_tot (by omega)) ht
 have l1 : (K 1).length ≤ 70000 := Nat.le_trans (len_tot (by omega)) ht
 obtain ⟨n, hn⟩ : ∃ n, (K 0).length = n := ⟨_, rfl⟩
 obtain ⟨m, hm⟩ : ∃ m, (K 1).length = m := ⟨_, rfl⟩
 rw [hn] at l0
 rw [hm] at l1
 have hrep : arcRepl K p c b = if n + m < c then ([], K) else arcOusts K (decide (0 < n ∧ (p < n ∨ (n = p ∧ b = true) ∨ m = 0))) := by
  unfold arcRepl arcRec; rw [hn, hm]
 obtain ⟨res, hres⟩ : ∃ r, arcRepl K p c b = r := ⟨_, rfl⟩
 rw [hres] at hrep ⊢
 have HR := Lib.hid hrep
 have HS : Hid ((K 0).length + (K 1).length = n + m) := by show _ = _; rw [hn, hm]
 have HN := Lib.hid hn
 have HM := Lib.hid hm
 clear hrep hres hn hm
 go_enter Tryz.func303, Tryz.ntmps303
 go_wp2_with fail
 go_region_held3 (fun w' => w'.cell? ⟨e, 0, none⟩ = some (.slice (some ⟨g, 0, none⟩) 4 cap) ∧ w'.cell? ⟨e, 1, none⟩ = some (.pointer (some ⟨x, 0, none⟩)) ∧ w'.cell? ⟨e, 2, none⟩ = some (.int .i64 c))
  (first
   | exact ⟨k0, k1, k2⟩
   | exact ⟨cell_fr (((Fr.refl [] _).drew).alloc _) k0 (by simp), cell_fr (((Fr.refl [] _).drew).alloc _) k1 (by simp), cell_fr (((Fr.refl [] _).drew).alloc _) k2 (by simp)⟩
   | exact ⟨cell_fr (((Fr.refl [] _).drew).same hf1) k0 (by simp), cell_fr (((Fr.refl [] _).drew).same hf1) k1 (by simp), cell_fr (((Fr.refl [] _).drew).same hf1) k2 (by simp)⟩)
  (first
   | (go_at_call 302; refine (emany2A (H.fr0 irokA ((Fr.refl [] _).drew)) 0 1 (by decide) (by decide) HS.out).mono ?_; rintro en w1 ⟨rfl, hf1⟩))
 have hfz : Fr [] w w1 := ((Fr.refl [] _).drew).same hf1
 have k0 := cell_fr hfz k0 (by simp)
 have k1 := cell_fr hfz k1 (by simp)
 have k2 := cell_fr hfz k2 (by simp)
 have k3 := cell_fr hfz k3 (by simp)
 clear hf1
 by_cases hlt : n + m < c
 ·go_wp2
  go_ret
  have hR : res = ([], K) := by rw [HR.out, if_pos hlt]
  rw [hR]
  exact GRet.nil ((EGo.refl H).fr irokA hfz)
 ·have H1 := H.fr0 irokA hfz
  go_wp2_with fail
  refine (emany1A H1 0 (by decide) HN.out).mono ?_
  rintro en w2 ⟨rfl, hf2⟩
  have hfz2 := hfz.same hf2
  have hfz := hf2
  have k0 := cell_fr hfz k0 (by simp)
  have k1 := cell_fr hfz k1 (by simp)
  have k2 := cell_fr hfz k2 (by simp)
  have k3 := cell_fr hfz k3 (by simp)
  have hfz := hfz2
  clear hf2 hfz2
  by_cases h0 : 0 < n
  ·by_cases h1 : p < n
   ·have hR : res = arcOusts K true := by rw [HR.out, if_neg hlt]; congr 1; simp [h0, h1]
    go_wp2_with fail
    refine (aousts (H.fr0 irokA hfz) ht _).mono ?_
    intro en wo hgr
    obtain ⟨v, Fo, rfl, hgo, heg⟩ := id hgr
    obtain ⟨va, vc, rfl⟩ := hgo.1.form
    clear hgo heg
    clear k0 k1 k2 k3
    go_wp2
    go_ret
    have hsz := hfz.size
    rw [hR]
    exact hgr.old hfz
   ·by_cases h2 : n = p ∧ b = true
    ·obtain ⟨rfl, rfl⟩ := h2
     have hR : res = arcOusts K true := by rw [HR.out, if_neg hlt]; congr 1; simp [h0]
     go_wp2_with fail
     refine (aousts (H.fr0 irokA hfz) ht _).mono ?_
     intro en wo hgr
     obtain ⟨v, Fo, rfl, hgo, heg⟩ := id hgr
     obtain ⟨va, vc, rfl⟩ := hgo.1.form
     clear hgo heg
     clear k0 k1 k2 k3
     go_wp2
     go_ret
     have hsz := hfz.size
     rw [hR]
     exact hgr.old hfz
    ·have hR : res = arcOusts K (decide (m = 0)) := by rw [HR.out, if_neg hlt]; congr 1; simp [h0, h1, h2]
     have hcase : (((n : Int) == (p : Int)) = false) ∨ (n = p ∧ b = false) := by
      by_cases h3 : n = p
      ·right; exact ⟨h3, by cases b <;> simp_all⟩
      ·left; rw [beq_eq_false_iff_ne]; omega
     have hmc : (((m : Int) == 0) = false ∧ m ≠ 0) ∨ m = 0 := by
      by_cases h3 : m = 0
      ·exact .inr h3
      ·left; exact ⟨by rw [beq_eq_false_iff_ne]; omega, h3⟩
     rcases hcase with hq | ⟨rfl, rfl⟩
     ·
      have H2 := H.fr0 irokA hfz
      go_wp2_with fail
      refine (emany1A H2 1 (by decide) HM.out).mono ?_
      rintro en w3 ⟨rfl, hf3⟩
      have hfz2 := hfz.same hf3
      have hfz := hfz2
      clear hfz2 hf3 H2
      rcases hmc with ⟨hmc, hm0⟩ | rfl
      ·rw [decide_eq_false hm0] at hR
       go_wp2_with fail
       refine (aousts (H.fr0 irokA hfz) ht _).mono ?_
       intro en wo hgr
       obtain ⟨v, Fo, rfl, hgo, heg⟩ := id hgr
       obtain ⟨va, vc, rfl⟩ := hgo.1.form
       clear hgo heg
       clear k0 k1 k2 k3
       go_wp2
       go_ret
       have hsz := hfz.size
       rw [hR]
       exact hgr.old hfz
      ·rw [decide_eq_true rfl] at hR
       go_wp2_with fail
       refine (aousts (H.fr0 irokA hfz) ht _).mono ?_
       intro en wo hgr
       obtain ⟨v, Fo, rfl, hgo, heg⟩ := id hgr
       obtain ⟨va, vc, rfl⟩ := hgo.1.form
       clear hgo heg
       clear k0 k1 k2 k3
       go_wp2
       go_ret
       have hsz := hfz.size
       rw [hR]
       exact hgr.old hfz
     ·
      have H2 := H.fr0 irokA hfz
      go_wp2_with fail
      refine (emany1A H2 1 (by decide) HM.out).mono ?_
      rintro en w3 ⟨rfl, hf3⟩
      have hfz2 := hfz.same hf3
      have hfz := hfz2
      clear hfz2 hf3 H2
      rcases hmc with ⟨hmc, hm0⟩ | rfl
      ·rw [decide_eq_false hm0] at hR
       go_wp2_with fail
       refine (aousts (H.fr0 irokA hfz) ht _).mono ?_
       intro en wo hgr
       obtain ⟨v, Fo, rfl, hgo, heg⟩ := id hgr
       obtain ⟨va, vc, rfl⟩ := hgo.1.form
       clear hgo heg
       clear k0 k1 k2 k3
       go_wp2
       go_ret
       have hsz := hfz.size
       rw [hR]
       exact hgr.old hfz
      ·rw [decide_eq_true rfl] at hR
       go_wp2_with fail
       refine (aousts (H.fr0 irokA hfz) ht _).mono ?_
       intro en wo hgr
       obtain ⟨v, Fo, rfl, hgo, heg⟩ := id hgr
       obtain ⟨va, vc, rfl⟩ := hgo.1.form
       clear hgo heg
       clear k0 k1 k2 k3
       go_wp2
       go_ret
       have hsz := hfz.size
       rw [hR]
       exact hgr.old hfz
  ·have hR : res = arcOusts K false := by rw [HR.out, if_neg hlt]; congr 1; simp [h0]
   go_wp2_with fail
   refine (aousts (H.fr0 irokA hfz) ht _).mono ?_
   intro en wo hgr
   obtain ⟨v, Fo, rfl, hgo, heg⟩ := id hgr
   obtain ⟨va, vc, rfl⟩ := hgo.1.form
   clear hgo heg
   clear k0 k1 k2 k3
   go_wp2
   go_ret
   have hsz := hfz.size
   rw [hR]
   exact hgr.old hfz
end
end Go.Proofs.YtphlancijlljcaaGreat
