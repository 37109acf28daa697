/- Texts of a proof about the given program, those parts that this claim reaches. -/
import Derived.Test.YtfeicmpbfbhiiaaGreatPEg13
import Derived.Test.YtfeicmpbfbhiiaaGreatPEg00
set_option linter.unusedVariables false
set_option linter.unusedSimpArgs false
namespace Go.Proofs.YtfeicmpbfbhiiaaGreat
open Go.RowKit
/-- A slice of strings that its holder owns. -/
abbrev SS (w : World) (v : Value) (l : List ByteArray) : Prop := Sl w 9 1 v l.length (l.map Value.string)
theorem oneS {l : List ByteArray} : ∀ u ∈ l.map Value.string, u.oneCell' = true := by
 intro u hu
 obtain ⟨_, _, rfl⟩ := List.mem_map.1 hu
 rfl
theorem SS.src {w : World} {v : Value} {l : List ByteArray} (h : SS w v l) : Src Tryz.prog 1 22 v l.length (l.map Value.string) w := Sl.src Tryz.underlying22 h oneS
theorem SS.one (w : World) (k : ByteArray) : SS (w.alloc (.cells #[.string k] 9)) (.slice (some ⟨w.heap.size, 0, none⟩) 1 1) [k] := Sl.built (size := 1) (e := 9) w #[.string k] 1 rfl (by decide)
theorem SS.fr0 {w w' : World} {v : Value} {l : List ByteArray} (h : SS w v l) (f : Fr [] w w') : SS w' v l := Sl.fr h f (fun _ _ => by simp)
/-- What append leaves. -/
def AppS (w : World) (v : Value) (l : List ByteArray) (v' : Value) (w' : World) : Prop := SS w' v' l ∧ Fr v.ownBlock.toList w w' ∧ (v'.ownBlock = v.ownBlock ∨ v'.ownBlock = some w.heap.size)
section
variable {w : World} {ops : Array Oper} {rest : List Oper} {o : Oper} {a : Act} {Q : Exit → Act → World → Prop}
theorem app_list (hgd : o.guard = none) (s x : Operand) (ho : o.op = .call { callee := .builtin .append, args := #[s, x], argTypes := #[22, 22] }) (v vx : Value) (l l2 : List ByteArray) (hvs : a.eval s = v) (hvx : a.eval x = vx) (hv : SS w v l) (hx : Src Tryz.prog 1 22 vx l2.length (l2.map Value.string) w) (hb : l.length + l2.length ≤ 1000000)
  (h : ∀ b n c w', n = l.length + l2.length → AppS w v (l ++ l2) (.slice b n c) w' → wpList Tryz.prog ops Q rest (a.put o.dst (.slice b n c)) w') : wpList Tryz.prog ops Q (o :: rest) a w := by
 obtain ⟨i0, hii, hz0, hz1, hz2⟩ := info_parts2 infoStr
 refine wpList_app hgd s x _ _ ho Tryz.underlying22 hii hz0 hz1 hz2 rfl v vx l.length l2.length _ _ hvs hvx hv oneS hx (by unfold maxLen; omega) (by omega) _ rfl fun b c w' h1 h2 h3 => h b _ c w' rfl ⟨?_, h2, h3⟩
 rw [← List.map_append] at h1
 show Sl _ _ _ _ _ _
 rw [List.length_append]
 exact h1
theorem app_step {K : Act → World → Prop} {E : Prop} (hgd : o.guard = none) (s x : Operand) (ho : o.op = .call { callee := .builtin .append, args := #[s, x], argTypes := #[22, 22] }) (v vx : Value) (l l2 : List ByteArray) (hvs : a.eval s = v) (hvx : a.eval x = vx) (hv : SS w v l) (hx : Src Tryz.prog 1 22 vx l2.length (l2.map Value.string) w) (hb : l.length + l2.length ≤ 1000000)
  (h : ∀ b n c w', n = l.length + l2.length → AppS w v (l ++ l2) (.slice b n c) w' → K (a.put o.dst (.slice b n c)) w') : if Region.wanted o (yielded ops a.tmps) = true then Oper.wp Tryz.prog o a w K Q else E := by
 obtain ⟨i0, hii, hz0, hz1, hz2⟩ := info_parts2 infoStr
 refine step_app hgd s x _ _ ho Tryz.underlying22 hii hz0 hz1 hz2 rfl v vx l.length l2.length _ _ hvs hvx hv oneS hx (by unfold maxLen; omega) (by omega) _ rfl fun b c w' h1 h2 h3 => h b _ c w' rfl ⟨?_, h2, h3⟩
 rw [← List.map_append] at h1
 show Sl _ _ _ _ _ _
 rw [List.length_append]
 exact h1
end
/-- Onto a slice that is new since W. -/
theorem AppS.new {W w w' : World} {v v' : Value} {l : List ByteArray} (h : AppS w v l v' w') (f : Fr [] W w) (g : Ge W.heap.size v.ownBlock.toList) : Gone W w' v' l ∧ Fr [] W w' := by
 obtain ⟨h1, h2, h3⟩ := h
 refine ⟨⟨h1, fun q hq => ?_⟩, f.fresh h2 g⟩
 rcases h3 with e | e
 ·rw [e] at hq; exact g q hq
 ·rw [e] at hq; simp at hq; have := f.size; omega
end Go.Proofs.YtfeicmpbfbhiiaaGreat
set_option linter.unusedVariables false
set_option linter.unusedSimpArgs false
namespace Go.Proofs.YtfeicmpbfbhiiaaGreat
open Go.RowKit
/-- Where a key stands in a row; -1: nowhere. -/
def rhas (l : List ByteArray) (key : ByteArray) : Int := match l.findIdx? (fun x => decide (x = key)) with | some i => (i : Int) | none => -1
theorem rhas_mem {l : List ByteArray} {key : ByteArray} : 0 ≤ rhas l key ↔ key ∈ l := by
 unfold rhas
 split
 ·rename_i i h
  obtain ⟨h1, h2, _⟩ := List.findIdx?_eq_some_iff_getElem.1 h
  simp at h2
  exact ⟨fun _ => h2 ▸ List.getElem_mem h1, fun _ => by omega⟩
 ·rename_i h
  rw [List.findIdx?_eq_none_iff] at h
  exact ⟨fun q => absurd q (by decide), fun q => absurd (h key q) (by simp)⟩
theorem rhas_at {l : List ByteArray} {key : ByteArray} {i : Nat} (hi : i < l.length) (h : l[i] = key) (hn : ∀ x, x ∈ l.take i → x ≠ key) : rhas l key = i := by
 unfold rhas
 have : l.findIdx? (fun x => decide (x = key)) = some i := by
  rw [List.findIdx?_eq_some_iff_getElem]
  refine ⟨hi, by simpa using h, fun j hj => ?_⟩
  have := hn l[j] (by rw [List.mem_take_iff_getElem]; exact ⟨j, by omega, rfl⟩)
  simpa using this
 rw [this]
theorem rhas_none {l : List ByteArray} {key : ByteArray} (h : key ∉ l) : rhas l key = -1 := by
 unfold rhas
 have : l.findIdx? (fun x => decide (x = key)) = none := by
  rw [List.findIdx?_eq_none_iff]
  intro x hx
  simp
  rintro rfl
  exact h hx
 rw [this]
theorem cutQ_snoc (l : List ByteArray) (key : ByteArray) (i : Nat) (h : i < l.length) : cutQ (l.take (i + 1)) key = cutQ (l.take i) key ++ (if l[i] = key then [] else [l[i]]) := by
 unfold cutQ
 rw [List.take_add_one, List.getElem?_eq_getElem h, List.filter_append]
 by_cases e : l[i] = key <;> simp [e]
theorem cutQ_lenle (l : List ByteArray) (key : ByteArray) : (cutQ l key).length ≤ l.length := List.length_filter_le _ _
section
variable {n : Nat} {K : Rows} {key : ByteArray}
/-- A key that was nowhere. -/
theorem push_fresh (hk : ∀ i, key ∉ K i) (q : Nat) : up K q (K q ++ [key]) = pushK K q key := by
 unfold pushK
 rw [dropK_none hk]
/-- The oldest one goes. -/
theorem tail_drop (h : RNd n K) {r : Nat} (hp : K r ≠ []) : up K r (K r).tail = dropK K (oldest K r) := by
 cases hk : K r with
 | nil => exact absurd hk hp
 | cons a l =>
  have hn := h.nd r
  rw [hk] at hn
  have ho : oldest K r = a := by simp [oldest, hk]
  rw [ho, dropK_one h (i := r) (by rw [hk]; simp), hk]
  congr 1
  show l = List.filter _ (a :: l)
  rw [List.filter_cons_of_neg (by simp)]
  exact (List.filter_eq_self.2 (fun x hx => by simp; rintro rfl; exact (List.nodup_cons.1 hn).1 hx)).symm
theorem up_up_same {α : Type} (f : Nat → α) (i : Nat) (a b : α) : up (up f i a) i b = up f i b := by
 funext j
 by_cases e : j = i
 ·subst e; rw [up_same, up_same]
 ·rw [up_other _ _ _ _ e, up_other _ _ _ _ e, up_other _ _ _ _ e]
theorem up_drop (h : RNd n K) {r : Nat} (hk : ∀ i, i ≠ r → key ∉ K i) : up K r (cutQ (K r) key) = dropK K key := by
 funext j
 by_cases e : j = r
 ·subst e; rw [up_same]; rfl
 ·rw [up_other _ _ _ _ e, dropK_not (hk j e)]
end
end Go.Proofs.YtfeicmpbfbhiiaaGreat
set_option linter.unusedVariables false
set_option linter.unusedSimpArgs false
namespace Go.Proofs.YtfeicmpbfbhiiaaGreat
open Go.RowKit
/-- A block of values at e, the blocks that its slices own, more blocks; all apart. -/
structure RB (T : TypeId) (w : World) (e : Nat) (F Fx : List Nat) (vs : List Value) : Prop where
 eF : F = e :: (vs.flatMap (fun v => v.ownBlock.toList) ++ Fx)
 blk : w.heap[e]? = some (.cells vs.toArray T (0, 0))
 lt : Lt F w
 x : e ∉ Fx
 ne : ∀ (i : Nat) (v : Value), vs[i]? = some v → v.ownBlock ≠ some e
 dx : ∀ (i : Nat) (v : Value) (b : Nat), vs[i]? = some v → v.ownBlock = some b → b ∉ Fx
 dd : ∀ (i j : Nat) (v u : Value) (b : Nat), vs[i]? = some v → vs[j]? = some u → v.ownBlock = some b → u.ownBlock = some b → i = j
theorem mem_rb {e b : Nat} {Fx : List Nat} {vs : List Value} : b ∈ e :: (vs.flatMap (fun v => v.ownBlock.toList) ++ Fx) ↔ b = e ∨ (∃ (i : Nat) (v : Value), vs[i]? = some v ∧ v.ownBlock = some b) ∨ b ∈ Fx := by
 simp only [List.mem_cons, List.mem_append, List.mem_flatMap, Option.mem_toList]
 constructor
 ·rintro (h | ⟨v, hv, hb⟩ | h)
  ·exact .inl h
  ·obtain ⟨i, hi⟩ := List.mem_iff_getElem?.1 hv
   exact .inr (.inl ⟨i, v, hi, hb⟩)
  ·exact .inr (.inr h)
 ·rintro (h | ⟨i, v, hi, hb⟩ | h)
  ·exact .inl h
  ·exact .inr (.inl ⟨v, List.mem_iff_getElem?.2 ⟨i, hi⟩, hb⟩)
  ·exact .inr (.inr h)
section
variable {T : TypeId} {w w' w1 : World} {e i : Nat} {F Fx G : List Nat} {vs : List Value} {v v' : Value}
theorem RB.mem (h : RB T w e F Fx vs) {b : Nat} : b ∈ F ↔ b = e ∨ (∃ (i : Nat) (v : Value), vs[i]? = some v ∧ v.ownBlock = some b) ∨ b ∈ Fx := by rw [h.eF]; exact mem_rb
theorem RB.at (h : RB T w e F Fx vs) : e ∈ F := h.mem.2 (.inl rfl)
theorem RB.k (h : RB T w e F Fx vs) (hi : vs[i]? = some v) : w.cell? ⟨e, i, none⟩ = some v := by rw [cell_of_block h.blk]; simpa using hi
theorem RB.fz (h : RB T w e F Fx vs) (j : Nat) : w.frozen? ⟨e, j, none⟩ = false := free_of_block h.blk j
theorem RB.own (h : RB T w e F Fx vs) (hi : vs[i]? = some v) {b : Nat} (hb : v.ownBlock = some b) : b ∈ F := h.mem.2 (.inr (.inl ⟨i, v, hi, hb⟩))
theorem RB.fr (h : RB T w e F Fx vs) (f : Fr G w w') (hd : Dis F G) : RB T w' e F Fx vs :=
 ⟨h.eF, f.get h.blk (hd e h.at), h.lt.fr f, h.x, h.ne, h.dx, h.dd⟩
/-- The i-th value is another one now. -/
theorem RB.put0 (h : RB T w e F Fx vs) (hi : vs[i]? = some v) (f : Fr v.ownBlock.toList w w1) (hn : ∀ b, v'.ownBlock = some b → v.ownBlock = some b ∨ b ∉ F) (hl : ∀ b, v'.ownBlock = some b → b < w1.heap.size) :
  ∃ F', RB T (w1.setCell ⟨e, i, none⟩ v') e F' Fx (vs.set i v') ∧ (∀ b, b ∈ F' → b ∈ F ∨ v'.ownBlock = some b) ∧ Fr F w (w1.setCell ⟨e, i, none⟩ v') := by
 have hlt := h.lt
 have he : e < w.heap.size := lt_of_block h.blk
 have hil : i < vs.length := by rcases Nat.lt_or_ge i vs.length with q | q; exact q; rw [List.getElem?_eq_none q] at hi; cases hi
 have hge : ∀ (j : Nat) (u : Value), (vs.set i v')[j]? = some u → (j = i ∧ u = v') ∨ (j ≠ i ∧ vs[j]? = some u) := fun j u hu => by
  by_cases e : j = i
  ·subst e; rw [List.getElem?_set_self hil] at hu; cases hu; exact .inl ⟨rfl, rfl⟩
  ·rw [List.getElem?_set_ne (Ne.symm e)] at hu; exact .inr ⟨e, hu⟩
 have a1 : v'.ownBlock ≠ some e := fun q => by
  rcases hn e q with z | z
  ·exact h.ne i v hi z
  ·exact z h.at
 have a2 : ∀ b, v'.ownBlock = some b → b ∉ Fx := fun b q hx => by
  rcases hn b q with z | z
  ·exact h.dx i v b hi z hx
  ·exact z (h.mem.2 (.inr (.inr hx)))
 have a3 : ∀ (j : Nat) (u : Value) (b : Nat), j ≠ i → vs[j]? = some u → u.ownBlock = some b → v'.ownBlock = some b → False := fun j u b hj hu q1 q2 => by
  rcases hn b q2 with z | z
  ·exact hj (h.dd j i u v b hu hi q1 z)
  ·exact z (h.own hu q1)
 have hfr : Fr F w (w1.setCell ⟨e, i, none⟩ v') := (f.mono (fun b hb _ => h.own hi (by simpa using hb))).setCell h.at v'
 refine ⟨_, ⟨rfl, ?_, fun b hb => ?_, h.x, fun j u hu => ?_, fun j u b hu => ?_, fun j k u z b hu hz q1 q2 => ?_⟩, fun b hb => ?_, hfr⟩
 ·rw [block_set_same (f.get h.blk (fun hh => h.ne i v hi (by simpa using hh)))]
  simp
 ·rcases mem_rb.1 hb with rfl | ⟨j, u, hu, q⟩ | hx
  ·exact Nat.lt_of_lt_of_le he hfr.size
  ·rcases hge j u hu with ⟨rfl, rfl⟩ | ⟨hj, hu⟩
   ·have := hl b q; simpa [World.setCell] using this
   ·exact Nat.lt_of_lt_of_le (hlt b (h.own hu q)) hfr.size
  ·exact Nat.lt_of_lt_of_le (hlt b (h.mem.2 (.inr (.inr hx)))) hfr.size
 ·rcases hge j u hu with ⟨rfl, rfl⟩ | ⟨hj, hu⟩
  ·exact a1
  ·exact h.ne j u hu
 ·rcases hge j u hu with ⟨rfl, rfl⟩ | ⟨hj, hu⟩
  ·exact a2 b
  ·exact h.dx j u b hu
 ·rcases hge j u hu with ⟨e1, e2⟩ | ⟨hj, hu2⟩ <;> rcases hge k z hz with ⟨e3, e4⟩ | ⟨hk, hz2⟩
  ·rw [e1, e3]
  ·exact (a3 k z b hk hz2 q2 (e2 ▸ q1)).elim
  ·exact (a3 j u b hj hu2 q1 (e4 ▸ q2)).elim
  ·exact h.dd j k u z b hu2 hz2 q1 q2
 ·rcases mem_rb.1 hb with rfl | ⟨j, u, hu, q⟩ | hx
  ·exact .inl h.at
  ·rcases hge j u hu with ⟨rfl, rfl⟩ | ⟨hj, hu⟩
   ·exact .inr q
   ·exact .inl (h.own hu q)
  ·exact .inl (h.mem.2 (.inr (.inr hx)))
theorem RB.put (h : RB T w e F Fx vs) (hi : vs[i]? = some v) (f : Fr v.ownBlock.toList w w1) (hn : ∀ b, v'.ownBlock = some b → v.ownBlock = some b ∨ w.heap.size ≤ b) (hl : ∀ b, v'.ownBlock = some b → b < w1.heap.size) :
  ∃ F', RB T (w1.setCell ⟨e, i, none⟩ v') e F' Fx (vs.set i v') ∧ Sub F' F w ∧ Fr F w (w1.setCell ⟨e, i, none⟩ v') := by
 have hlt := h.lt
 obtain ⟨F', h1, h2, h3⟩ := h.put0 hi f (fun b hb => (hn b hb).imp id fun z hh => by have := hlt b hh; omega) hl
 refine ⟨F', h1, fun b hb => ?_, h3⟩
 rcases h2 b hb with q | q
 ·exact .inl q
 ·exact (hn b q).imp (h.own hi) id
/-- The other slices are not touched. -/
theorem RB.apart (h : RB T w e F Fx vs) (hi : vs[i]? = some v) {j : Nat} {u : Value} (hj : vs[j]? = some u) (hij : j ≠ i) : Dis u.ownBlock.toList v.ownBlock.toList := fun b hb hh =>
 hij (h.dd j i u v b hj hi (by simpa using hb) (by simpa using hh))
/-- The other blocks were changed. -/
theorem RB.ext (h : RB T w e F Fx vs) {Fy : List Nat} (hs : Sub Fy Fx w) (hl : Lt Fy w1) (f : Fr Fx w w1) : ∃ F', RB T w1 e F' Fy vs ∧ Sub F' F w ∧ Fr F w w1 := by
 have hlt := h.lt
 have he : e < w.heap.size := lt_of_block h.blk
 refine ⟨_, ⟨rfl, f.get h.blk h.x, fun b hb => ?_, fun hx => ?_, h.ne, fun j u b hu q hx => ?_, h.dd⟩, fun b hb => ?_, f.mono (fun b hb _ => h.mem.2 (.inr (.inr hb)))⟩
 ·rcases mem_rb.1 hb with rfl | ⟨j, u, hu, q⟩ | hx
  ·exact Nat.lt_of_lt_of_le he f.size
  ·exact Nat.lt_of_lt_of_le (hlt b (h.own hu q)) f.size
  ·exact hl b hx
 ·rcases hs e hx with z | z
  ·exact h.x z
  ·omega
 ·rcases hs b hx with z | z
  ·exact h.dx j u b hu q z
  ·have := hlt b (h.own hu q); omega
 ·rcases mem_rb.1 hb with rfl | ⟨j, u, hu, q⟩ | hx
  ·exact .inl h.at
  ·exact .inl (h.own hu q)
  ·rcases hs b hx with z | z
   ·exact .inl (h.mem.2 (.inr (.inr z)))
   ·exact .inr z
end
/-- What a slice holds: elements of what type, of how many cells, how many, the cells. -/
structure RowD where
 te : TypeId
 sz : Nat
 n : Nat
 xs : List Value
abbrev strR (l : List ByteArray) : RowD := ⟨9, 1, l.length, l.map Value.string⟩
def RowAt (w : World) (v : Value) (r : RowD) : Prop := Sl w r.te r.sz v r.n r.xs
/-- n slices, and more values that own nothing. -/
structure RV (n : Nat) (T : TypeId) (w : World) (e : Nat) (F Fx : List Nat) (V : Nat → Value) (X : Nat → RowD) (rest : List Value) : Prop where
 b : RB T w e F Fx ((List.range n).map V ++ rest)
 s : ∀ i, i < n → RowAt w (V i) (X i)
 r : ∀ u, u ∈ rest → u.ownBlock = none
def RG (n : Nat) (T : TypeId) (w : World) (e : Nat) (F Fx : List Nat) (V : Nat → Value) (X : Nat → RowD) (rest : List Value) (w' : World) : Prop := ∃ F', RV n T w' e F' Fx V X rest ∧ Sub F' F w ∧ Fr F w w'
section
variable {n : Nat} {T : TypeId} {w w' w0 w1 : World} {e i : Nat} {F Fx G : List Nat} {V : Nat → Value} {X : Nat → RowD} {rest : List Value} {v' u : Value} {r : RowD}
theorem rv_get (V : Nat → Value) (rest : List Value) (hi : i < n) : ((List.range n).map V ++ rest)[i]? = some (V i) := by
 rw [List.getElem?_append_left (by simpa using hi)]
 simp [hi]
theorem rv_get2 (V : Nat → Value) (rest : List Value) (j : Nat) : ((List.range n).map V ++ rest)[n + j]? = rest[j]? := by
 rw [List.getElem?_append_right (by simp)]
 simp
theorem rv_set (V : Nat → Value) (rest : List Value) (hi : i < n) (v' : Value) : ((List.range n).map V ++ rest).set i v' = (List.range n).map (up V i v') ++ rest := by
 rw [List.set_append_left _ _ (by simpa using hi)]
 congr 1
 apply List.ext_getElem?
 intro j
 rw [List.getElem?_set]
 by_cases e : i = j
 ·subst e; simp [hi, up]
 ·simp only [e, if_false, List.getElem?_map]
  by_cases hj : j < n
  ·simp [hj, up, Ne.symm e]
  ·simp [List.getElem?_eq_none (show (List.range n).length ≤ j by simpa using hj)]
theorem RV.k (h : RV n T w e F Fx V X rest) (hi : i < n) : w.cell? ⟨e, i, none⟩ = some (V i) := h.b.k (rv_get V rest hi)
theorem RV.kr (h : RV n T w e F Fx V X rest) (j : Nat) {u : Value} (hj : rest[j]? = some u) : w.cell? ⟨e, n + j, none⟩ = some u := h.b.k (by rw [rv_get2]; exact hj)
theorem RV.fz (h : RV n T w e F Fx V X rest) (j : Nat) : w.frozen? ⟨e, j, none⟩ = false := h.b.fz j
theorem RV.lt (h : RV n T w e F Fx V X rest) : Lt F w := h.b.lt
theorem RV.ne (h : RV n T w e F Fx V X rest) (hi : i < n) : (V i).ownBlock ≠ some e := h.b.ne i _ (rv_get V rest hi)
theorem RV.own (h : RV n T w e F Fx V X rest) (hi : i < n) : ∀ b, b ∈ (V i).ownBlock.toList → b ∈ F := fun b hb => h.b.own (rv_get V rest hi) (by simpa using hb)
theorem RV.fr (h : RV n T w e F Fx V X rest) (f : Fr G w w') (hd : Dis F G) : RV n T w' e F Fx V X rest :=
 ⟨h.b.fr f hd, fun i hi => Sl.fr (h.s i hi) f (fun b hb => hd b (h.own hi b hb)), h.r⟩
theorem RV.fr0 (h : RV n T w e F Fx V X rest) (f : Fr [] w w') : RV n T w' e F Fx V X rest := h.fr f (fun _ _ => by simp)
/-- The i-th slice is another one now. -/
theorem RV.put0 (h : RV n T w e F Fx V X rest) (hi : i < n) (f : Fr (V i).ownBlock.toList w w1) (hn : ∀ b, v'.ownBlock = some b → (V i).ownBlock = some b ∨ b ∉ F) (hs : RowAt w1 v' r) :
  ∃ F', RV n T (w1.setCell ⟨e, i, none⟩ v') e F' Fx (up V i v') (up X i r) rest ∧ (∀ b, b ∈ F' → b ∈ F ∨ v'.ownBlock = some b) ∧ Fr F w (w1.setCell ⟨e, i, none⟩ v') := by
 have hlv : ∀ b, v'.ownBlock = some b → b < w1.heap.size := fun b hb => Sl.lt hs b (by simp [hb])
 obtain ⟨F', h1, h2, h3⟩ := h.b.put0 (rv_get V rest hi) f hn hlv
 rw [rv_set V rest hi] at h1
 refine ⟨F', ⟨h1, fun j hj => ?_, h.r⟩, h2, h3⟩
 have fs := (Fr.refl [e] w1).setCell (p := ⟨e, i, none⟩) (by simp) v'
 by_cases q : j = i
 ·subst q
  rw [up_same, up_same]
  refine Sl.fr hs fs (fun b hb hh => ?_)
  simp at hh hb
  subst hh
  have := h1.ne j v' (by rw [rv_get _ _ hi, up_same])
  exact this hb
 ·rw [up_other _ _ _ _ q, up_other _ _ _ _ q]
  refine Sl.fr (Sl.fr (h.s j hj) f (h.b.apart (rv_get V rest hi) (rv_get V rest hj) q)) fs (fun b hb hh => ?_)
  simp at hh hb
  subst hh
  exact h.ne hj hb
theorem RV.put (h : RV n T w e F Fx V X rest) (hi : i < n) (f : Fr (V i).ownBlock.toList w w1) (hn : ∀ b, v'.ownBlock = some b → (V i).ownBlock = some b ∨ w.heap.size ≤ b) (hs : RowAt w1 v' r) :
  RG n T w e F Fx (up V i v') (up X i r) rest (w1.setCell ⟨e, i, none⟩ v') := by
 have hlt := h.lt
 obtain ⟨F', h1, h2, h3⟩ := h.put0 hi f (fun b hb => (hn b hb).imp id fun z hh => by have := hlt b hh; omega) hs
 refine ⟨F', h1, fun b hb => ?_, h3⟩
 rcases h2 b hb with q | q
 ·exact .inl q
 ·exact (hn b q).imp (fun z => h.own hi b (by simp [z])) id
/-- .. by one that is new since w. -/
theorem RG.put (h : RG n T w e F Fx V X rest w1) (hi : i < n) (hs : RowAt w1 v' r) (he : e < w.heap.size) (hx : Lt Fx w) (hb : ∀ b, v'.ownBlock = some b → w.heap.size ≤ b ∧ ∀ j, j < n → (V j).ownBlock ≠ some b) :
  RG n T w e F Fx (up V i v') (up X i r) rest (w1.setCell ⟨e, i, none⟩ v') := by
 obtain ⟨F', h1, h2, h3⟩ := h
 have hnew : ∀ b, v'.ownBlock = some b → b ∉ F' := fun b hq hh => by
  obtain ⟨z1, z2⟩ := hb b hq
  rcases h1.b.mem.1 hh with rfl | ⟨j, u, hu, q⟩ | hxx
  ·omega
  ·by_cases hj : j < n
   ·rw [rv_get V rest hj] at hu; cases hu; exact z2 j hj q
   ·obtain ⟨m, rfl⟩ : ∃ m, j = n + m := ⟨j - n, by omega⟩
    rw [rv_get2] at hu
    have := h1.r u (List.mem_iff_getElem?.2 ⟨m, hu⟩)
    rw [this] at q; cases q
  ·have := hx b hxx; omega
 obtain ⟨F2, k1, k2, k3⟩ := h1.put0 hi (Fr.refl _ _) (fun b hq => .inr (hnew b hq)) hs
 refine ⟨F2, k1, fun b hq => ?_, h3.via h2 k3⟩
 rcases k2 b hq with q | q
 ·exact h2 b q
 ·exact .inr (hb b q).1
theorem RV.ext (h : RV n T w e F Fx V X rest) {Fy : List Nat} (hs : Sub Fy Fx w) (hl : Lt Fy w1) (f : Fr Fx w w1) : RG n T w e F Fy V X rest w1 := by
 obtain ⟨F', h1, h2, h3⟩ := h.b.ext hs hl f
 exact ⟨F', ⟨h1, fun i hi => Sl.fr (h.s i hi) f (fun b hb => h.b.dx i _ b (rv_get V rest hi) (by simpa using hb)), h.r⟩, h2, h3⟩
theorem RG.refl (h : RV n T w e F Fx V X rest) : RG n T w e F Fx V X rest w := ⟨F, h, Sub.refl _ _, Fr.refl _ _⟩
theorem RG.trans {F1 Fy : List Nat} (h1 : Sub F1 F w) (h2 : Fr F w w1) (h : RG n T w1 e F1 Fy V X rest w') : RG n T w e F Fy V X rest w' := by
 obtain ⟨F', a1, a2, a3⟩ := h
 exact ⟨F', a1, h1.fr h2 a2, h2.via h1 a3⟩
theorem RG.old (h : RG n T w e F Fx V X rest w1) (f : Fr [] w0 w) : RG n T w0 e F Fx V X rest w1 := by
 obtain ⟨F', h1, h2, h3⟩ := h
 exact ⟨F', h1, h2.old f.size, f.nil.same h3⟩
theorem RG.fr (h : RG n T w e F Fx V X rest w1) (f : Fr [] w1 w') : RG n T w e F Fx V X rest w' := by
 obtain ⟨F', h1, h2, h3⟩ := h
 exact ⟨F', h1.fr0 f, h2, h3.same f.nil⟩
/-- First this, then that. -/
theorem RG.then {V2 : Nat → Value} {X2 : Nat → RowD} {rest2 : List Value} {Fy : List Nat} (h : RG n T w e F Fx V X rest w1) (k : ∀ F1, RV n T w1 e F1 Fx V X rest → RG n T w1 e F1 Fy V2 X2 rest2 w') : RG n T w e F Fy V2 X2 rest2 w' := by
 obtain ⟨F', h1, h2, h3⟩ := h
 exact RG.trans h2 h3 (k F' h1)
end
theorem RowAt.str {w : World} {a : Option Addr} {n c i : Nat} {l : List ByteArray} (h : RowAt w (.slice a n c) (strR l)) (hi : i < l.length) : ∃ g o, a = some ⟨g, o, none⟩ ∧ w.cell? ⟨g, o + i, none⟩ = some (.string l[i]) := by
 obtain ⟨g, o, d, hv, _⟩ := Sl.pos h (by show 0 < l.length; omega)
 simp at hv
 obtain ⟨rfl, hn, rfl⟩ := hv
 subst hn
 exact ⟨g, o, rfl, Sl.cell (j := i) (u := .string l[i]) h (by simp [hi])⟩
/-- Slices that are written out. -/
def V4 (a b c d : Value) : Nat → Value := fun i => match i with | 0 => a | 1 => b | 2 => c | _ => d
section
variable {n : Nat} {T : TypeId} {w w' w0 w1 : World} {e i : Nat} {F Fx G : List Nat} {V : Nat → Value} {X : Nat → RowD} {rest : List Value} {v' u : Value} {r : RowD}
theorem RV.lit (h : RV n T w e F Fx V X rest) (hn : n ≤ 4) : ∃ a0 n0 c0 a1 n1 c1 a2 n2 c2 a3 n3 c3, (X 0).n = n0 ∧ (X 1).n = n1 ∧ (X 2).n = n2 ∧ (X 3).n = n3 ∧ RV n T w e F Fx (V4 (.slice a0 n0 c0) (.slice a1 n1 c1) (.slice a2 n2 c2) (.slice a3 n3 c3)) X rest := by
 have hf : ∀ i, ∃ a c, i < n → V i = .slice a (X i).n c := fun i => by
  by_cases hi : i < n
  ·obtain ⟨a, c, hv⟩ := Sl.form (h.s i hi); exact ⟨a, c, fun _ => hv⟩
  ·exact ⟨none, 0, fun hh => absurd hh hi⟩
 obtain ⟨a0, c0, q0⟩ := hf 0
 obtain ⟨a1, c1, q1⟩ := hf 1
 obtain ⟨a2, c2, q2⟩ := hf 2
 obtain ⟨a3, c3, q3⟩ := hf 3
 refine ⟨a0, _, c0, a1, _, c1, a2, _, c2, a3, _, c3, rfl, rfl, rfl, rfl, ?_⟩
 have hV : ∀ i, i < n → V4 (.slice a0 (X 0).n c0) (.slice a1 (X 1).n c1) (.slice a2 (X 2).n c2) (.slice a3 (X 3).n c3) i = V i := fun i hi => by
  match i, hi with
  | 0, hi => exact (q0 hi).symm
  | 1, hi => exact (q1 hi).symm
  | 2, hi => exact (q2 hi).symm
  | 3, hi => exact (q3 hi).symm
  | i + 4, hi => omega
 have hm : (List.range n).map (V4 (.slice a0 (X 0).n c0) (.slice a1 (X 1).n c1) (.slice a2 (X 2).n c2) (.slice a3 (X 3).n c3)) = (List.range n).map V := List.map_congr_left fun i hi => hV i (List.mem_range.1 hi)
 exact ⟨by rw [hm]; exact h.b, fun i hi => by rw [hV i hi]; exact h.s i hi, h.r⟩
/-- A row is one that was made anew. -/
theorem RV.cut {l : List ByteArray} (h : RV n T w e F Fx V X rest) (hi : i < n) (f : Fr [] w w1) (g : Gone w w1 v' l) : RG n T w e F Fx (up V i v') (up X i (strR l)) rest (w1.setCell ⟨e, i, none⟩ v') :=
 h.put hi (f.mono (fun _ q => by cases q)) (fun b hb => .inr (g.2 b (by simp [hb]))) g.1
/-- A row has got longer. -/
theorem RV.app {l2 : List ByteArray} (h : RV n T w e F Fx V X rest) (hi : i < n) (f : Fr [] w w0) (g : AppS w0 (V i) l2 v' w1) : RG n T w e F Fx (up V i v') (up X i (strR l2)) rest (w1.setCell ⟨e, i, none⟩ v') := by
 obtain ⟨g1, g2, g3⟩ := g
 refine h.put hi ((f.mono (fun _ q => by cases q)).same g2) (fun b hb => ?_) g1
 rcases g3 with q | q
 ·rw [q] at hb; exact .inl hb
 ·rw [q] at hb; simp at hb; have := f.size; exact .inr (by omega)
/-- The struct's cells behind a call that makes memory alone, behind an append. -/
theorem RV.c0 (h : RV n T w e F Fx V X rest) (f : Fr [] w w1) (j : Nat) : w1.cell? ⟨e, j, none⟩ = w.cell? ⟨e, j, none⟩ ∧ w1.frozen? ⟨e, j, none⟩ = false := by
 have b := f.get h.b.blk (by simp)
 exact ⟨by rw [cell_of_block b, cell_of_block h.b.blk], free_of_block b j⟩
theorem RV.c1 {l2 : List ByteArray} (h : RV n T w e F Fx V X rest) (hi : i < n) (f : Fr [] w w0) (g : AppS w0 (V i) l2 v' w1) (j : Nat) : w1.cell? ⟨e, j, none⟩ = w.cell? ⟨e, j, none⟩ ∧ w1.frozen? ⟨e, j, none⟩ = false := by
 have b := g.2.1.get (f.get h.b.blk (by simp)) (fun q => h.ne hi (by simpa using q))
 exact ⟨by rw [cell_of_block b, cell_of_block h.b.blk], free_of_block b j⟩
/-- A row's first key goes. -/
theorem RV.tail {a : Option Addr} {c : Nat} {k : ByteArray} {l : List ByteArray} (h : RV n T w e F Fx V X rest) (hi : i < n) (hX : X i = strR (k :: l)) (hV : V i = .slice a (l.length + 1) c) :
  RG n T w e F Fx (up V i (.slice (if c = 1 then a else a.map (·.add (1 * 1))) l.length (c - 1))) (up X i (strR l)) rest (w.setCell ⟨e, i, none⟩ (.slice (if c = 1 then a else a.map (·.add (1 * 1))) l.length (c - 1))) := by
 have hs := h.s i hi
 rw [hX, hV] at hs
 have h2 := Sl.slice (lo := 1) (hi := l.length + 1) hs (by omega) (Nat.le_refl _)
 refine h.put hi (Fr.refl _ _) (fun b hb => ?_) ?_
 ·rw [hV]
  left
  cases a with
  | none => simp [Value.ownBlock] at hb
  | some a => by_cases q : c = 1 <;> simpa [Value.ownBlock, q, Addr.add] using hb
 ·have e1 : l.length + 1 - 1 = l.length := by omega
  rw [e1] at h2
  have e2 : List.take (l.length * (strR (k :: l)).sz) (List.drop (1 * (strR (k :: l)).sz) (strR (k :: l)).xs) = l.map Value.string := by
   simp only [List.map_cons, Nat.mul_one, List.drop_succ_cons, List.drop_zero]
   exact List.take_of_length_le (by simp)
  rw [e2] at h2
  exact h2
end
theorem up_strR (K : Rows) (i : Nat) (l : List ByteArray) : up (fun j => strR (K j)) i (strR l) = fun j => strR (up K i l j) := by
 funext j
 by_cases e : j = i
 ·subst e; rw [up_same, up_same]
 ·rw [up_other _ _ _ _ e, up_other _ _ _ _ e]
end Go.Proofs.YtfeicmpbfbhiiaaGreat
set_option linter.unusedVariables false
set_option linter.unusedSimpArgs false
namespace Go.Proofs.YtfeicmpbfbhiiaaGreat
open Go.RowKit
attribute [local go_sem ↓] Go.wp_at_zero Go.wp_at_succ
set_option maxRecDepth 100000 in
theorem fhasA {w : World} {v : Value} {l : List ByteArray} (h : SS w v l) (hl : l.length ≤ 1000000) (key : ByteArray) :
  Calls Tryz.prog 200 #[v, .string key] w fun en w' => en = .returned (.int .i64 (rhas l key)) ∧ w' = w := by
 have H := Lib.hid h
 obtain ⟨a, c, hv⟩ := h.form
 obtain ⟨n, hn⟩ : ∃ n, l.length = n := ⟨_, rfl⟩
 have HN : Hid (l.length = n) := hn
 rw [hn] at hv hl
 subst hv
 clear h hn
 go_enter Tryz.func200, Tryz.ntmps200
 go_wp2
 go_loopw [5] (fun i wr => ∃ j : Nat, j ≤ n ∧ i = .int .i64 j ∧ wr = w ∧ Hid (∀ x, x ∈ l.take j → x ≠ key)) (fun i _ => n - (intOf i).toNat)
 case atStart => exact ⟨0, Nat.zero_le _, rfl, rfl, fun x hx => by simp at hx⟩
 case round =>
  obtain ⟨j, hj, rfl, rfl, hno⟩ := hrel
  by_cases hlt : j < n
  ·have hjl : j < l.length := by rw [HN.out]; exact hlt
   have hsl : SS wr (.slice a n c) l := H.out
   obtain ⟨gb, go, gc, hgv, _⟩ := Sl.pos hsl (by rw [HN.out]; omega)
   rw [HN.out] at hgv
   simp at hgv
   obtain ⟨rfl, rfl⟩ := hgv
   have x0 := hsl
   unfold SS at x0
   rw [HN.out] at x0
   replace x0 := x0.cell (j := j) (u := .string l[j]) (by simp [hjl])
   obtain ⟨k, hk⟩ : ∃ k, l[j] = k := ⟨_, rfl⟩
   rw [hk] at x0
   have HK : Hid (l[j] = k) := hk
   clear hsl hk
   by_cases e : k = key
   ·have b := str_eq_t e
    have HE := Lib.hid e
    clear e
    go_wp2
    go_ret
    exact ⟨by rw [rhas_at hjl (HK.out.trans HE.out) hno.out]; rfl, rfl⟩
   ·have b := str_ne_f e
    have hno2 : Hid (∀ x, x ∈ l.take (j + 1) → x ≠ key) := fun x hx => by
     rw [List.take_add_one, List.getElem?_eq_getElem hjl] at hx
     rcases List.mem_append.1 hx with q | q
     ·exact hno.out x q
     ·simp at q; rw [q, HK.out]; exact e
    go_wp2
    exact ⟨⟨j + 1, by omega, by go_num, by first | rfl | trivial, hno2⟩, by simp [intOf]; omega⟩
  ·have : j = n := by omega
   subst this
   go_wp2
   go_ret
   have hno := hno.out
   rw [← HN.out, List.take_length] at hno
   exact ⟨by rw [rhas_none (fun q => hno key q rfl)]; rfl, rfl⟩
set_option maxRecDepth 100000 in
theorem fcutA {w : World} {v : Value} {l : List ByteArray} (h : SS w v l) (hl : l.length ≤ 500000) (key : ByteArray) :
  Calls Tryz.prog 180 #[v, .string key] w fun en w' => ∃ a n c, en = .returned (.slice a n c) ∧ Gone w w' (.slice a n c) (cutQ l key) ∧ Fr [] w w' := by
 have H := Lib.hid h
 obtain ⟨a, c, hv⟩ := h.form
 obtain ⟨n, hn⟩ : ∃ n, l.length = n := ⟨_, rfl⟩
 have HN : Hid (l.length = n) := hn
 rw [hn] at hv hl
 subst hv
 clear h hn
 go_enter Tryz.func180, Tryz.ntmps180
 go_wp2
 go_loopw [5, 6] (fun u5 u6 wr => ∃ (j m : Nat) (b : Option Addr) (cc : Nat), j ≤ n ∧ u6 = .int .i64 j ∧ u5 = .slice b m cc ∧ m ≤ j ∧ Hid (m = (cutQ (l.take j) key).length) ∧ Hid (Gone w wr (.slice b m cc) (cutQ (l.take j) key)) ∧ Fr [] w wr) (fun _ u6 _ => n - (intOf u6).toNat)
 case atStart => exact ⟨0, 0, none, 0, by omega, rfl, rfl, by omega, rfl, Gone.nil _ _, Fr.refl _ _⟩
 case round =>
  obtain ⟨j, m, b, cc, hj, rfl, rfl, hm, hM, hG, hf⟩ := hrel
  by_cases hlt : j < n
  ·have hjl : j < l.length := by rw [HN.out]; exact hlt
   have hsl : SS wr (.slice a n c) l := Sl.fr H.out hf (fun _ _ => by simp)
   obtain ⟨gb, go, gc, hgv, _⟩ := Sl.pos hsl (by rw [HN.out]; omega)
   rw [HN.out] at hgv
   simp at hgv
   obtain ⟨rfl, rfl⟩ := hgv
   have x0 := hsl
   unfold SS at x0
   rw [HN.out] at x0
   replace x0 := x0.cell (j := j) (u := .string l[j]) (by simp [hjl])
   have hsn := cutQ_snoc l key j hjl
   obtain ⟨k, hk⟩ : ∃ k, l[j] = k := ⟨_, rfl⟩
   rw [hk] at x0 hsn
   have q1 : (j : Int) < (n : Int) := by omega
   clear hsl hk
   by_cases e : k = key
   ·have b := str_eq_t e
    have HSN2 : Hid (cutQ (l.take (j + 1)) key = cutQ (l.take j) key) := by rw [if_pos e, List.append_nil] at hsn; exact hsn
    clear e hsn
    go_wp2
    exact ⟨⟨j + 1, m, _, cc, by omega, by go_num, rfl, by omega, by show _ = _; rw [HSN2.out]; exact hM.out, by show Gone _ _ _ _; rw [HSN2.out]; exact hG.out, hf⟩, by simp [intOf]; omega⟩
   ·have b1 := str_ne_f e
    have HSN2 : Hid (cutQ (l.take (j + 1)) key = cutQ (l.take j) key ++ [k]) := by rw [if_neg e] at hsn; exact hsn
    clear e hsn
    go_wp2_with (at_builtin; refine app_list rfl _ _ rfl (.slice b m cc) (.slice (some ⟨wr.heap.size, 0, none⟩) 1 1) (cutQ (l.take j) key) [k] rfl rfl ?hsl ?src ?hb ?_)
    case hsl => exact (hG.out.fr0 ((Fr.refl [] _).alloc _)).1
    case src => exact SS.src (SS.one wr k)
    case hb => have := hM.out; simp; omega
    intro b' n' c' w4 hn' happ
    obtain ⟨g1, g2⟩ := happ.new (hf.alloc _) hG.out.2
    have G1 := Lib.hid g1
    have hn2 : n' = m + 1 := by rw [hn', hM.out]
    clear hn'
    subst hn2
    clear happ g1
    go_wp2
    exact ⟨⟨j + 1, m + 1, b', c', by omega, by go_num, rfl, by omega, by show _ = _; rw [HSN2.out, List.length_append, ← hM.out]; rfl, by show Gone _ _ _ _; rw [HSN2.out]; exact G1.out, g2⟩, by simp [intOf]; omega⟩
  ·have : j = n := by omega
   subst this
   go_wp2
   go_ret
   have e : l.take j = l := by rw [← HN.out]; exact List.take_length
   have hg := hG.out
   rw [e] at hg
   exact ⟨_, _, _, rfl, hg, hf⟩
set_option maxRecDepth 100000 in
theorem fhasQ {w : World} {v : Value} {l : List ByteArray} (h : SS w v l) (hl : l.length ≤ 1000000) (key : ByteArray) :
  Calls Tryz.prog 207 #[v, .string key] w fun en w' => en = .returned (.int .i64 (rhas l key)) ∧ w' = w := by
 have H := Lib.hid h
 obtain ⟨a, c, hv⟩ := h.form
 obtain ⟨n, hn⟩ : ∃ n, l.length = n := ⟨_, rfl⟩
 have HN : Hid (l.length = n) := hn
 rw [hn] at hv hl
 subst hv
 clear h hn
 go_enter Tryz.func207, Tryz.ntmps207
 go_wp2
 go_loopw [5] (fun i wr => ∃ j : Nat, j ≤ n ∧ i = .int .i64 j ∧ wr = w ∧ Hid (∀ x, x ∈ l.take j → x ≠ key)) (fun i _ => n - (intOf i).toNat)
 case atStart => exact ⟨0, Nat.zero_le _, rfl, rfl, fun x hx => by simp at hx⟩
 case round =>
  obtain ⟨j, hj, rfl, rfl, hno⟩ := hrel
  by_cases hlt : j < n
  ·have hjl : j < l.length := by rw [HN.out]; exact hlt
   have hsl : SS wr (.slice a n c) l := H.out
   obtain ⟨gb, go, gc, hgv, _⟩ := Sl.pos hsl (by rw [HN.out]; omega)
   rw [HN.out] at hgv
   simp at hgv
   obtain ⟨rfl, rfl⟩ := hgv
   have x0 := hsl
   unfold SS at x0
   rw [HN.out] at x0
   replace x0 := x0.cell (j := j) (u := .string l[j]) (by simp [hjl])
   obtain ⟨k, hk⟩ : ∃ k, l[j] = k := ⟨_, rfl⟩
   rw [hk] at x0
   have HK : Hid (l[j] = k) := hk
   clear hsl hk
   by_cases e : k = key
   ·have b := str_eq_t e
    have HE := Lib.hid e
    clear e
    go_wp2
    go_ret
    exact ⟨by rw [rhas_at hjl (HK.out.trans HE.out) hno.out]; rfl, rfl⟩
   ·have b := str_ne_f e
    have hno2 : Hid (∀ x, x ∈ l.take (j + 1) → x ≠ key) := fun x hx => by
     rw [List.take_add_one, List.getElem?_eq_getElem hjl] at hx
     rcases List.mem_append.1 hx with q | q
     ·exact hno.out x q
     ·simp at q; rw [q, HK.out]; exact e
    go_wp2
    exact ⟨⟨j + 1, by omega, by go_num, by first | rfl | trivial, hno2⟩, by simp [intOf]; omega⟩
  ·have : j = n := by omega
   subst this
   go_wp2
   go_ret
   have hno := hno.out
   rw [← HN.out, List.take_length] at hno
   exact ⟨by rw [rhas_none (fun q => hno key q rfl)]; rfl, rfl⟩
set_option maxRecDepth 100000 in
theorem fcutQ {w : World} {v : Value} {l : List ByteArray} (h : SS w v l) (hl : l.length ≤ 500000) (key : ByteArray) :
  Calls Tryz.prog 187 #[v, .string key] w fun en w' => ∃ a n c, en = .returned (.slice a n c) ∧ Gone w w' (.slice a n c) (cutQ l key) ∧ Fr [] w w' := by
 have H := Lib.hid h
 obtain ⟨a, c, hv⟩ := h.form
 obtain ⟨n, hn⟩ : ∃ n, l.length = n := ⟨_, rfl⟩
 have HN : Hid (l.length = n) := hn
 rw [hn] at hv hl
 subst hv
 clear h hn
 go_enter Tryz.func187, Tryz.ntmps187
 go_wp2
 go_loopw [5, 6] (fun u5 u6 wr => ∃ (j m : Nat) (b : Option Addr) (cc : Nat), j ≤ n ∧ u6 = .int .i64 j ∧ u5 = .slice b m cc ∧ m ≤ j ∧ Hid (m = (cutQ (l.take j) key).length) ∧ Hid (Gone w wr (.slice b m cc) (cutQ (l.take j) key)) ∧ Fr [] w wr) (fun _ u6 _ => n - (intOf u6).toNat)
 case atStart => exact ⟨0, 0, none, 0, by omega, rfl, rfl, by omega, rfl, Gone.nil _ _, Fr.refl _ _⟩
 case round =>
  obtain ⟨j, m, b, cc, hj, rfl, rfl, hm, hM, hG, hf⟩ := hrel
  by_cases hlt : j < n
  ·have hjl : j < l.length := by rw [HN.out]; exact hlt
   have hsl : SS wr (.slice a n c) l := Sl.fr H.out hf (fun _ _ => by simp)
   obtain ⟨gb, go, gc, hgv, _⟩ := Sl.pos hsl (by rw [HN.out]; omega)
   rw [HN.out] at hgv
   simp at hgv
   obtain ⟨rfl, rfl⟩ := hgv
   have x0 := hsl
   unfold SS at x0
   rw [HN.out] at x0
   replace x0 := x0.cell (j := j) (u := .string l[j]) (by simp [hjl])
   have hsn := cutQ_snoc l key j hjl
   obtain ⟨k, hk⟩ : ∃ k, l[j] = k := ⟨_, rfl⟩
   rw [hk] at x0 hsn
   have q1 : (j : Int) < (n : Int) := by omega
   clear hsl hk
   by_cases e : k = key
   ·have b := str_eq_t e
    have HSN2 : Hid (cutQ (l.take (j + 1)) key = cutQ (l.take j) key) := by rw [if_pos e, List.append_nil] at hsn; exact hsn
    clear e hsn
    go_wp2
    exact ⟨⟨j + 1, m, _, cc, by omega, by go_num, rfl, by omega, by show _ = _; rw [HSN2.out]; exact hM.out, by show Gone _ _ _ _; rw [HSN2.out]; exact hG.out, hf⟩, by simp [intOf]; omega⟩
   ·have b1 := str_ne_f e
    have HSN2 : Hid (cutQ (l.take (j + 1)) key = cutQ (l.take j) key ++ [k]) := by rw [if_neg e] at hsn; exact hsn
    clear e hsn
    go_wp2_with (at_builtin; refine app_list rfl _ _ rfl (.slice b m cc) (.slice (some ⟨wr.heap.size, 0, none⟩) 1 1) (cutQ (l.take j) key) [k] rfl rfl ?hsl ?src ?hb ?_)
    case hsl => exact (hG.out.fr0 ((Fr.refl [] _).alloc _)).1
    case src => exact SS.src (SS.one wr k)
    case hb => have := hM.out; simp; omega
    intro b' n' c' w4 hn' happ
    obtain ⟨g1, g2⟩ := happ.new (hf.alloc _) hG.out.2
    have G1 := Lib.hid g1
    have hn2 : n' = m + 1 := by rw [hn', hM.out]
    clear hn'
    subst hn2
    clear happ g1
    go_wp2
    exact ⟨⟨j + 1, m + 1, b', c', by omega, by go_num, rfl, by omega, by show _ = _; rw [HSN2.out, List.length_append, ← hM.out]; rfl, by show Gone _ _ _ _; rw [HSN2.out]; exact G1.out, g2⟩, by simp [intOf]; omega⟩
  ·have : j = n := by omega
   subst this
   go_wp2
   go_ret
   have e : l.take j = l := by rw [← HN.out]; exact List.take_length
   have hg := hG.out
   rw [e] at hg
   exact ⟨_, _, _, rfl, hg, hf⟩
set_option maxRecDepth 100000 in
theorem fhasU {w : World} {v : Value} {l : List ByteArray} (h : SS w v l) (hl : l.length ≤ 1000000) (key : ByteArray) :
  Calls Tryz.prog 210 #[v, .string key] w fun en w' => en = .returned (.int .i64 (rhas l key)) ∧ w' = w := by
 have H := Lib.hid h
 obtain ⟨a, c, hv⟩ := h.form
 obtain ⟨n, hn⟩ : ∃ n, l.length = n := ⟨_, rfl⟩
 have HN : Hid (l.length = n) := hn
 rw [hn] at hv hl
 subst hv
 clear h hn
 go_enter Tryz.func210, Tryz.ntmps210
 go_wp2
 go_loopw [5] (fun i wr => ∃ j : Nat, j ≤ n ∧ i = .int .i64 j ∧ wr = w ∧ Hid (∀ x, x ∈ l.take j → x ≠ key)) (fun i _ => n - (intOf i).toNat)
 case atStart => exact ⟨0, Nat.zero_le _, rfl, rfl, fun x hx => by simp at hx⟩
 case round =>
  obtain ⟨j, hj, rfl, rfl, hno⟩ := hrel
  by_cases hlt : j < n
  ·have hjl : j < l.length := by rw [HN.out]; exact hlt
   have hsl : SS wr (.slice a n c) l := H.out
   obtain ⟨gb, go, gc, hgv, _⟩ := Sl.pos hsl (by rw [HN.out]; omega)
   rw [HN.out] at hgv
   simp at hgv
   obtain ⟨rfl, rfl⟩ := hgv
   have x0 := hsl
   unfold SS at x0
   rw [HN.out] at x0
   replace x0 := x0.cell (j := j) (u := .string l[j]) (by simp [hjl])
   obtain ⟨k, hk⟩ : ∃ k, l[j] = k := ⟨_, rfl⟩
   rw [hk] at x0
   have HK : Hid (l[j] = k) := hk
   clear hsl hk
   by_cases e : k = key
   ·have b := str_eq_t e
    have HE := Lib.hid e
    clear e
    go_wp2
    go_ret
    exact ⟨by rw [rhas_at hjl (HK.out.trans HE.out) hno.out]; rfl, rfl⟩
   ·have b := str_ne_f e
    have hno2 : Hid (∀ x, x ∈ l.take (j + 1) → x ≠ key) := fun x hx => by
     rw [List.take_add_one, List.getElem?_eq_getElem hjl] at hx
     rcases List.mem_append.1 hx with q | q
     ·exact hno.out x q
     ·simp at q; rw [q, HK.out]; exact e
    go_wp2
    exact ⟨⟨j + 1, by omega, by go_num, by first | rfl | trivial, hno2⟩, by simp [intOf]; omega⟩
  ·have : j = n := by omega
   subst this
   go_wp2
   go_ret
   have hno := hno.out
   rw [← HN.out, List.take_length] at hno
   exact ⟨by rw [rhas_none (fun q => hno key q rfl)]; rfl, rfl⟩
end Go.Proofs.YtfeicmpbfbhiiaaGreat
