/- Texts of a proof about the given program, those parts that this claim reaches. -/
import Derived.WalkKit
import Derived.WalkSpells
import Derived.WalkLawsBesides
import Derived.Deep.QuietTactic
import Derived.BigQuiet
import Derived.IntWalk
import Derived.Lib.Hide
import Derived.Deep.RegionHeld3
import Derived.Deep.DrawnRows
import Derived.Deep.Cut
import Derived.Deep.DeepCutAuto
import Derived.Deep.AppendLies
import Derived.Deep.AppendSrc
import Derived.Test.YtfeicmpbfbhiiaaGreatChecked
import Derived.OpenShut
import Derived.Laws.BytesArg
set_option linter.unusedVariables false
set_option linter.unusedSimpArgs false
namespace Go.Proofs.YtfeicmpbfbhiiaaGreat
open Go.RowKit
/-- Outside of the blocks F all that was there is as it was. -/
structure Fr (F : List Nat) (w w' : World) : Prop where
 os : w'.os = w.os
 tape : w'.tape = w.tape
 output : w'.output = w.output
 size : w.heap.size ≤ w'.heap.size
 block : ∀ k, k < w.heap.size → k ∉ F → w'.heap[k]? = w.heap[k]?
theorem Fr.refl (F : List Nat) (w : World) : Fr F w w := ⟨rfl, rfl, rfl, Nat.le_refl _, fun _ _ _ => rfl⟩
theorem Fr.trans {F G H : List Nat} {a b c : World} (h : Fr F a b) (k : Fr G b c) (hF : ∀ x, x ∈ F → x < a.heap.size → x ∈ H) (hG : ∀ x, x ∈ G → x < a.heap.size → x ∈ H) : Fr H a c :=
 ⟨k.os.trans h.os, k.tape.trans h.tape, k.output.trans h.output, Nat.le_trans h.size k.size,
  fun i hi hn => (k.block i (Nat.lt_of_lt_of_le hi h.size) (fun hg => hn (hG i hg hi))).trans (h.block i hi (fun hf => hn (hF i hf hi)))⟩
theorem Fr.same {F : List Nat} {a b c : World} (h : Fr F a b) (k : Fr F b c) : Fr F a c := h.trans k (fun _ h _ => h) (fun _ h _ => h)
theorem Fr.mono {F G : List Nat} {a b : World} (h : Fr F a b) (hF : ∀ x, x ∈ F → x < a.heap.size → x ∈ G) : Fr G a b :=
 ⟨h.os, h.tape, h.output, h.size, fun i hi hn => h.block i hi (fun hf => hn (hF i hf hi))⟩
theorem Fr.drewN {F : List Nat} {a w : World} (h : Fr F a w) (n : Nat) : Fr F a (w.drewN n) := ⟨h.os, h.tape, h.output, h.size, h.block⟩
theorem Fr.drew {F : List Nat} {a w : World} (h : Fr F a w) : Fr F a w.drew := ⟨h.os, h.tape, h.output, h.size, h.block⟩
theorem Fr.setCell {F : List Nat} {a w : World} (h : Fr F a w) {p : Addr} (hp : p.block ∈ F) (u : Value) : Fr F a (w.setCell p u) :=
 h.same ⟨rfl, rfl, rfl, by simp [World.setCell], fun k _ hk => Below.heap_setCell _ _ _ _ (fun e => hk (e ▸ hp))⟩
/-- A store into a block that is new since a. -/
theorem Fr.setNew {F : List Nat} {a w : World} (h : Fr F a w) {p : Addr} (hp : a.heap.size ≤ p.block) (u : Value) : Fr F a (w.setCell p u) :=
 h.trans (G := [p.block]) ⟨rfl, rfl, rfl, by simp [World.setCell], fun k _ hk => Below.heap_setCell _ _ _ _ (fun e => hk (by simp [e]))⟩ (fun _ h _ => h) (fun x hx hl => by simp at hx; omega)
theorem Fr.alloc {F : List Nat} {a w : World} (h : Fr F a w) (o : Obj) : Fr F a (w.alloc o) :=
 h.same ⟨rfl, rfl, rfl, by simp, fun k hk _ => Below.heap_alloc _ _ _ hk⟩
theorem Fr.below {B : Nat} {a w : World} (h : Fr [] a w) (hB : B ≤ a.heap.size) : Below B a w :=
 ⟨h.os, h.tape, h.output, h.size, fun k hk => h.block k (Nat.lt_of_lt_of_le hk hB) (by simp)⟩
theorem Fr.ofBelow {a w : World} (h : Below a.heap.size a w) : Fr [] a w := ⟨h.os, h.tape, h.output, h.size, fun k hk _ => h.block k hk⟩
/-- What a law on append leaves. -/
theorem Fr.grown {F : List Nat} {a w w' : World} {row : Option Nat} (h : Fr F a w) (hg : w.grownBy w' row) (hr : ∀ k, row = some k → k ∈ F ∨ a.heap.size ≤ k) : Fr F a w' :=
 h.trans (G := row.toList) ⟨hg.os, hg.tape, hg.output, hg.size, fun k hk hn => hg.block k hk (fun e => hn (by simp [← e]))⟩ (fun _ h _ => h)
  (fun x hx hl => by
   rcases hr x (by simpa using hx) with h1 | h1
   ·exact h1
   ·omega)
/-- The blocks F' are among F, or new since w. -/
def Sub (F' F : List Nat) (w : World) : Prop := ∀ b, b ∈ F' → b ∈ F ∨ w.heap.size ≤ b
/-- No block is in both. -/
def Dis (F G : List Nat) : Prop := ∀ b, b ∈ F → b ∉ G
/-- All blocks from n on. -/
def Ge (n : Nat) (F : List Nat) : Prop := ∀ b, b ∈ F → n ≤ b
/-- All blocks are there. -/
def Lt (F : List Nat) (w : World) : Prop := ∀ b, b ∈ F → b < w.heap.size
theorem Sub.refl (F : List Nat) (w : World) : Sub F F w := fun _ h => .inl h
theorem Sub.trans {F G H : List Nat} {a b : World} (h : Sub G F a) (k : Sub H G b) (hs : a.heap.size ≤ b.heap.size) : Sub H F a := fun x hx => by
 rcases k x hx with h1 | h1
 ·exact h x h1
 ·right; omega
theorem Sub.ge {F' F : List Nat} {w : World} {n : Nat} (h : Sub F' F w) (hF : Ge n F) (hn : n ≤ w.heap.size) : Ge n F' := fun x hx => by
 rcases h x hx with h1 | h1
 ·exact hF x h1
 ·omega
theorem Dis.symm {F G : List Nat} (h : Dis F G) : Dis G F := fun b h1 h2 => h b h2 h1
theorem Dis.sub {F' F G : List Nat} {w : World} (h : Dis F G) (k : Sub F' F w) (hl : Lt G w) : Dis F' G := fun b h1 h2 => by
 rcases k b h1 with h3 | h3
 ·exact h b h3 h2
 ·have := hl b h2; omega
theorem Dis.new {F G : List Nat} {w : World} (h : Ge w.heap.size F) (hl : Lt G w) : Dis F G := fun b h1 h2 => by
 have := hl b h2; have := h b h1; omega
theorem Lt.fr {F G : List Nat} {w w' : World} (h : Lt F w) (k : Fr G w w') : Lt F w' := fun b hb => Nat.lt_of_lt_of_le (h b hb) k.size
theorem Ge.mono {n m : Nat} {F : List Nat} (h : Ge n F) (k : m ≤ n) : Ge m F := fun b hb => Nat.le_trans k (h b hb)
/-- What is done to blocks that are new since W leaves all that was there in W. -/
theorem Fr.fresh {F G : List Nat} {W w w' : World} (h : Fr G W w) (k : Fr F w w') (hF : Ge W.heap.size F) : Fr G W w' :=
 h.trans k (fun _ h _ => h) (fun x hx hl => by have := hF x hx; omega)
theorem lt_of_block {w : World} {b : Nat} {o : Obj} (h : w.heap[b]? = some o) : b < w.heap.size := (Array.getElem?_eq_some_iff.1 h).1
theorem Fr.get {F : List Nat} {a w : World} (h : Fr F a w) {b : Nat} {o : Obj} (hb : a.heap[b]? = some o) (hn : b ∉ F) : w.heap[b]? = some o :=
 (h.block b (lt_of_block hb) hn).trans hb
theorem cell_of_block {w : World} {b : Nat} {cs : Array Value} {T : TypeId} {z : Nat × Nat} (h : w.heap[b]? = some (.cells cs T z)) (i : Nat) : w.cell? ⟨b, i, none⟩ = cs[i]? := by
 simp [World.cell?, h]
theorem free_of_block {w : World} {b : Nat} {cs : Array Value} {T : TypeId} (h : w.heap[b]? = some (.cells cs T (0, 0))) (i : Nat) : w.frozen? ⟨b, i, none⟩ = false := by
 simp [World.frozen?, h]
theorem block_set_same {w : World} {b : Nat} {cs : Array Value} {T : TypeId} {z : Nat × Nat} (h : w.heap[b]? = some (.cells cs T z)) (i : Nat) (v : Value) : (w.setCell ⟨b, i, none⟩ v).heap[b]? = some (.cells (cs.setIfInBounds i v) T z) := by
 simp [World.setCell, Array.getElem?_modify, h]
theorem block_set_other {w : World} {b : Nat} {o : Option Obj} (h : w.heap[b]? = o) {p : Addr} (hp : p.block ≠ b) (v : Value) : (w.setCell p v).heap[b]? = o := by
 rw [Below.heap_setCell _ _ _ _ (Ne.symm hp)]; exact h
theorem block_drewN {w : World} {b n : Nat} {o : Option Obj} (h : w.heap[b]? = o) : (w.drewN n).heap[b]? = o := h
theorem block_alloc_old {w : World} {b : Nat} {o : Obj} (h : w.heap[b]? = some o) (x : Obj) : (w.alloc x).heap[b]? = some o := by
 rw [Below.heap_alloc _ _ _ (lt_of_block h)]; exact h
theorem block_alloc_new (w : World) (x : Obj) : (w.alloc x).heap[w.heap.size]? = some x := by
 show (w.heap.push x)[w.heap.size]? = _
 simp
@[simp] theorem size_drewN (w : World) (n : Nat) : (w.drewN n).heap.size = w.heap.size := rfl
/-- A slice that reads as xs (size cells an element): nil, or at the head of a block of its own. Its block: 'Value.ownBlock'. -/
abbrev Own (w : World) (e : TypeId) (size : Nat) (v : Value) (n : Nat) (xs : List Value) : Prop := w.ownsRow 0 e size v n xs
theorem Own.fr {F : List Nat} {w w' : World} {e : TypeId} {size : Nat} {v : Value} {n : Nat} {xs : List Value} (h : Own w e size v n xs) (k : Fr F w w') (hd : Dis v.ownBlock.toList F) : Own w' e size v n xs := by
 refine ⟨h.1, ?_⟩
 rcases h.2 with hn | ⟨g, cap, cur, rfl, hb, hgg, rest⟩
 ·exact .inl hn
 ·exact .inr ⟨g, cap, cur, rfl, hb, k.get hgg (hd g (by simp [Value.ownBlock])), rest⟩
theorem Own.lt {w : World} {e : TypeId} {size : Nat} {v : Value} {n : Nat} {xs : List Value} (h : Own w e size v n xs) : Lt v.ownBlock.toList w := by
 intro b hb
 rcases h.2 with ⟨rfl, _⟩ | ⟨g, cap, cur, rfl, _, hgg, _⟩
 ·simp [Value.ownBlock] at hb
 ·simp [Value.ownBlock] at hb; subst hb; exact lt_of_block hgg
theorem Own.base {w : World} {e : TypeId} {size : Nat} {v : Value} {n : Nat} {xs : List Value} {B : Nat} (h : w.ownsRow B e size v n xs) : Own w e size v n xs := by
 refine ⟨h.1, ?_⟩
 rcases h.2 with hn | ⟨g, cap, cur, rfl, hb, r⟩
 ·exact .inl hn
 ·exact .inr ⟨g, cap, cur, rfl, Nat.zero_le _, r⟩
/-- What comes back is a slice in new memory that reads as xs; nothing that was there has turned. -/
def OwnRet (w : World) (e : TypeId) (size n : Nat) (xs : List Value) (en : Ending) (w' : World) : Prop := ∃ v, en = .returned v ∧ w'.ownsRow w.heap.size e size v n xs ∧ Fr [] w w'
theorem cell_fr {F : List Nat} {w w' : World} (h : Fr F w w') {b i : Nat} {v : Value} (hc : w.cell? ⟨b, i, none⟩ = some v) (hn : b ∉ F) : w'.cell? ⟨b, i, none⟩ = some v := by
 rw [World.cell?_of_block (w := w) (h.block b (World.block_lt_of_cell? w ⟨b, i, none⟩ hc) hn)]; exact hc
theorem Own.base_le {w : World} {e : TypeId} {size : Nat} {v : Value} {n : Nat} {xs : List Value} {B : Nat} (h : w.ownsRow B e size v n xs) : Ge B v.ownBlock.toList := by
 intro b hb
 rcases h.2 with ⟨rfl, _⟩ | ⟨g, cap, cur, rfl, hg, _⟩
 ·simp [Value.ownBlock] at hb
 ·simp [Value.ownBlock] at hb; subst hb; exact hg
/-- Behind an append onto a slice of the call's own. -/
theorem Fr.grownOwn {F : List Nat} {a w w' x : World} {e : TypeId} {size : Nat} {v : Value} {n : Nat} {xs : List Value} (h : Fr F a w) (hg : w.grownBy w' v.ownBlock) (ho : x.ownsRow a.heap.size e size v n xs) : Fr F a w' :=
 h.grown hg fun k hk => .inr (Own.base_le ho k (by rw [hk]; simp))
theorem ownFr {w w' : World} {e : TypeId} {size : Nat} {v : Value} {n : Nat} {xs : List Value} {B : Nat} {F : List Nat} (h : w.ownsRow B e size v n xs) (k : Fr F w w') (hF : ∀ b, b ∈ F → b < B) : w'.ownsRow B e size v n xs := by
 refine ⟨h.1, ?_⟩
 rcases h.2 with hn | ⟨g, cap, cur, rfl, hb, hgg, rest⟩
 ·exact .inl hn
 ·exact .inr ⟨g, cap, cur, rfl, hb, k.get hgg (fun hg => by have := hF g hg; omega), rest⟩
/-- '==' on strings, as the walk writes it. -/
theorem str_beq (a b : ByteArray) : (a.toList == b.toList) = decide (a = b) := by
 rw [ByteArray.toList_eq, ByteArray.toList_eq]
 by_cases h : a = b
 ·simp [h]
 ·have : ¬ a.data.toList = b.data.toList := fun e => h (by cases a; cases b; simp at e; simp [e])
  rw [decide_eq_false h]
  exact beq_eq_false_iff_ne.2 this
theorem str_eq {a b : ByteArray} (h : (a.toList == b.toList) = true) : a = b := by rw [str_beq] at h; exact of_decide_eq_true h
theorem str_ne {a b : ByteArray} (h : (a.toList == b.toList) = false) : a ≠ b := by rw [str_beq] at h; exact of_decide_eq_false h
theorem str_eq_t {a b : ByteArray} (h : a = b) : (a.toList == b.toList) = true := by rw [str_beq]; exact decide_eq_true h
theorem str_ne_f {a b : ByteArray} (h : a ≠ b) : (a.toList == b.toList) = false := by rw [str_beq]; exact decide_eq_false h
end Go.Proofs.YtfeicmpbfbhiiaaGreat
set_option linter.unusedVariables false
set_option linter.unusedSimpArgs false
namespace Go.Proofs.YtfeicmpbfbhiiaaGreat
open Go.RowKit
/-- v reads as n elements of type e, each of so many cells: xs. -/
def Sl (w : World) (e : TypeId) (size : Nat) (v : Value) (n : Nat) (xs : List Value) : Prop :=
 xs.length = n * size ∧ ((v = .slice none 0 0 ∧ n = 0) ∨
  ∃ g off cap cur, v = .slice (some ⟨g, off, none⟩) n cap ∧ w.heap[g]? = some (.cells cur e (0, 0)) ∧ n ≤ cap ∧ cap ≤ maxLen ∧ off + cap * size ≤ cur.size ∧ (cur.toList.drop off).take (n * size) = xs)
section
variable {w : World} {e : TypeId} {size : Nat} {v : Value} {n : Nat} {xs : List Value}
theorem Sl.nil (w : World) (e : TypeId) (size : Nat) : Sl w e size (.slice none 0 0) 0 [] := ⟨by simp, .inl ⟨rfl, rfl⟩⟩
theorem Sl.form (h : Sl w e size v n xs) : ∃ a c, v = .slice a n c := by
 rcases h.2 with ⟨rfl, rfl⟩ | ⟨g, off, cap, cur, rfl, _⟩
 ·exact ⟨_, _, rfl⟩
 ·exact ⟨_, _, rfl⟩
theorem Sl.fr {F : List Nat} {w' : World} (h : Sl w e size v n xs) (k : Fr F w w') (hd : Dis v.ownBlock.toList F) : Sl w' e size v n xs := by
 refine ⟨h.1, ?_⟩
 rcases h.2 with hn | ⟨g, off, cap, cur, rfl, hgg, rest⟩
 ·exact .inl hn
 ·exact .inr ⟨g, off, cap, cur, rfl, k.get hgg (hd g (by simp [Value.ownBlock])), rest⟩
theorem Sl.lt (h : Sl w e size v n xs) : Lt v.ownBlock.toList w := by
 intro b hb
 rcases h.2 with ⟨rfl, _⟩ | ⟨g, off, cap, cur, rfl, hgg, _⟩
 ·simp [Value.ownBlock] at hb
 ·simp [Value.ownBlock] at hb; subst hb; exact lt_of_block hgg
theorem Sl.ofOwn {B : Nat} (h : w.ownsRow B e size v n xs) : Sl w e size v n xs := by
 refine ⟨h.1, ?_⟩
 rcases h.2 with hn | ⟨g, cap, cur, rfl, hb, hgg, h1, h2, h3, h4⟩
 ·exact .inl hn
 ·exact .inr ⟨g, 0, cap, cur, rfl, hgg, h1, h2, by omega, by simpa using h4⟩
theorem Sl.cell {g off c : Nat} (h : Sl w e size (.slice (some ⟨g, off, none⟩) n c) n xs) {j : Nat} {u : Value} (hu : xs[j]? = some u) : w.cell? ⟨g, off + j, none⟩ = some u := by
 rcases h.2 with ⟨h1, _⟩ | ⟨g', off', cap, cur, h1, hgg, _, _, _, ht⟩
 ·simp at h1
 ·simp at h1
  obtain ⟨⟨rfl, rfl⟩, rfl⟩ := h1
  rw [cell_of_block hgg, ← Array.getElem?_toList]
  rw [← ht] at hu
  rw [List.getElem?_take] at hu
  split at hu
  ·rw [List.getElem?_drop] at hu; exact hu
  ·cases hu
theorem Sl.pos (h : Sl w e size v n xs) (hn : 0 < n) : ∃ g off c, v = .slice (some ⟨g, off, none⟩) n c ∧ g < w.heap.size := by
 rcases h.2 with ⟨_, h0⟩ | ⟨g, off, cap, cur, rfl, hgg, _⟩
 ·omega
 ·exact ⟨g, off, cap, rfl, lt_of_block hgg⟩
theorem Sl.built (w : World) (cur : Array Value) (n : Nat) (hs : cur.size = n * size) (hm : n ≤ maxLen) : Sl (w.alloc (.cells cur e)) e size (.slice (some ⟨w.heap.size, 0, none⟩) n n) n cur.toList := by
 refine ⟨by simpa using hs, .inr ⟨w.heap.size, 0, n, cur, rfl, block_alloc_new _ _, Nat.le_refl _, hm, by omega, ?_⟩⟩
 rw [List.drop_zero, List.take_of_length_le (by simp; omega)]
theorem addr_add (g off j : Nat) : (⟨g, off, none⟩ : Addr).add j = ⟨g, off + j, none⟩ := by
 unfold Addr.add; split <;> simp_all
theorem Sl.src {P : Program} {tx e' : TypeId} (hk : P.underlying tx = some (.slice e')) (h : Sl w e size v n xs) (h1 : ∀ u ∈ xs, u.oneCell' = true) : Src P size tx v n xs w := by
 rcases h.2 with ⟨rfl, rfl⟩ | ⟨g, off, cap, cur, rfl, hgg, _, _, _, ht⟩
 ·have hx : xs = [] := List.eq_nil_of_length_eq_zero (by simpa using h.1)
  subst hx
  exact Src.ofNil w hk 0
 ·exact Src.ofSlice w hk _ _ _ xs h.1 (fun j u hu => by rw [addr_add]; exact h.cell hu) h1
/-- One element that has just been laid into a block of its own. -/
theorem Src.built {P : Program} {size : Nat} {tx e' : TypeId} (hk : P.underlying tx = some (.slice e')) (W : World) (cs : List Value) (T : TypeId) (g : Nat) (hg : g = W.heap.size) (hl : cs.length = size) (h1 : ∀ u ∈ cs, u.oneCell' = true) :
  Src P size tx (.slice (some ⟨g, 0, none⟩) 1 1) 1 cs (W.alloc (.cells cs.toArray T)) := by
 subst hg
 exact Src.ofSlice _ hk _ 1 1 cs (by omega) (by simpa using World.news_of_block (cs := cs.toArray) (heap_alloc_new W _)) h1
theorem setCells_block {b : Nat} {T : TypeId} {z : Nat × Nat} : ∀ (vs : List Value) (o : Nat) (cur : Array Value) (w : World), w.heap[b]? = .some (.cells cur T z) → o + vs.length ≤ cur.size →
  (w.setCells b o vs).heap[b]? = .some (.cells (cur.toList.take o ++ vs ++ cur.toList.drop (o + vs.length)).toArray T z)
 | [], o, cur, w, h, _ => by simp [World.setCells, h]
 | v :: r, o, cur, w, h, hl => by
  simp only [List.length_cons] at hl
  have h2 := setCells_block r (o + 1) (cur.setIfInBounds o v) (w.setCell ⟨b, o, none⟩ v) (block_set_same h o v) (by simp; omega)
  simp only [World.setCells]
  rw [h2]
  congr 2
  congr 1
  apply List.ext_getElem?
  intro i
  simp only [Array.toList_setIfInBounds, List.getElem?_append, List.length_append, List.length_take, List.length_set, Array.length_toList, List.getElem?_take, List.getElem?_drop, List.getElem?_set, List.length_cons]
  have e1 : min (o + 1) cur.size = o + 1 := by omega
  have e2 : min o cur.size = o := by omega
  rw [e1, e2]
  by_cases c1 : i < o
  ·simp [c1, show i < o + 1 by omega, show ¬ o = i by omega, show i < o + 1 + r.length by omega, show i < o + (r.length + 1) by omega]
  ·by_cases c2 : i = o
   ·subst c2
    simp [show i < i + 1 + r.length by omega, show i < cur.size by omega]
   ·by_cases c3 : i < o + 1 + r.length
    ·have : i - o = (i - (o + 1)) + 1 := by omega
     simp [c1, c3, show ¬ i < o + 1 by omega, show i < o + (r.length + 1) by omega, this]
    ·simp [c3, show ¬ i < o + (r.length + 1) by omega, show ¬ o = o + 1 + r.length + (i - (o + 1 + r.length)) by omega]
     congr 1
     omega
theorem setCells_fr (b : Nat) : ∀ (vs : List Value) (o : Nat) (w : World), Fr [b] w (w.setCells b o vs)
 | [], _, w => Fr.refl _ _
 | v :: r, o, w => ((Fr.refl [b] w).setCell (p := ⟨b, o, none⟩) (by simp) v).same (setCells_fr b r (o + 1) _)
/-- append, both arms, whatever is appended. -/
theorem run_app {P : Program} (w : World) {t tx e : TypeId} (ty : TypeId) {i : TypeInfo} {z : Value} {size bytes : Nat} (ht : P.underlying t = .some (.slice e)) (hi : P.info? e = .some i) (hz : i.zero = .some z)
  (hsize : i.size = size) (hby : i.bytes = bytes) (hzs : z.cells.size = size) {v : Value} {n : Nat} {xs : List Value} (hv : Sl w e size v n xs) (h1 : ∀ u ∈ xs, u.oneCell' = true)
  {x : Value} {m : Nat} {news : List Value} (hs : Src P size tx x m news w) (h63 : n + m ≤ maxLen) (hbytes : (n + m) * bytes ≤ 140737488355328) :
  ∃ a c w', (Builtin.append_ #[t, tx] ty #[v, x]).run P w = .ok (.slice a (n + m) c) w' ∧ Sl w' e size (.slice a (n + m) c) (n + m) (xs ++ news) ∧ Fr v.ownBlock.toList w w' ∧
   ((Value.slice a (n + m) c).ownBlock = v.ownBlock ∨ (Value.slice a (n + m) c).ownBlock = .some w.heap.size) := by
 subst hsize
 subst hby
 have hsmall : n + m ≤ 9223372036854775807 := by simp only [maxLen] at h63; omega
 have hlen : (xs ++ news).length = (n + m) * i.size := by rw [List.length_append, hv.1, hs.newsLen, Nat.add_mul]
 have grown : ∀ (old : Nat), old < n + m →
   Sl (w.drew.alloc (.cells ((xs ++ news).toArray ++ Builtin.zeroCells z.cells (grownCap w (n + m) old e - (n + m))) e)) e i.size
    (.slice (.some ⟨w.heap.size, 0, none⟩) (n + m) (grownCap w (n + m) old e)) (n + m) (xs ++ news) := by
  intro old ho
  have hge := grownCap_ge w (n + m) old e
  have hcm : grownCap w (n + m) old e ≤ maxLen := grownCap_le_maxLen w (n + m) old e h63
  refine ⟨hlen, .inr ⟨w.heap.size, 0, _, _, rfl, block_alloc_new w.drew _, hge, hcm, ?_, ?_⟩⟩
  ·simp only [Array.size_append, List.size_toArray, size_zeroCells, hzs, hlen, ← Nat.add_mul, Nat.zero_add]
   exact Nat.le_of_eq (congrArg (· * i.size) (by omega))
  ·simp only [Array.toList_append, List.drop_zero]
   rw [← hlen]
   exact List.take_left
 have hfit : ∀ old, old < n + m → Builtin.nextslicecap (n + m) old * i.bytes ≤ 281474976710656 := fun old ho => growslice_fits ho hbytes
 rcases hv.2 with ⟨rfl, rfl⟩ | ⟨g, off, cap, cur, rfl, hg, hnc, hcm, hcs, htake⟩
 ·have hx : xs = [] := List.eq_nil_of_length_eq_zero (by simpa using hv.1)
  subst hx
  by_cases hm : m = 0
  ·subst hm
   have hn : news = [] := List.eq_nil_of_length_eq_zero (by simpa using hs.newsLen)
   subst hn
   refine ⟨none, 0, w, ?_, Sl.nil w e i.size, Fr.refl _ _, .inl rfl⟩
   rcases hs.kind with ⟨e', hk⟩ | hk <;> simp [Builtin.append_, run_underlying ht, run_underlying hk, sizeOf, typeInfo, hi, hs.len, hs.cells]
  ·have hr := run_append_grow_src (P := P) w t tx ty e i z ht hi hz none 0 0 [] (by exact run_firstCells_none w.drew i.size 0 0 0) x m news hs (by omega) (by omega) (by have := hfit 0 (by omega); simpa using this)
   have hgr := grown 0 (by omega)
   simp only [Nat.zero_add, List.nil_append] at hgr hr ⊢
   exact ⟨_, _, _, hr, hgr, (Fr.refl _ w).drew.alloc _, .inr rfl⟩
 ·by_cases hroom : n + m ≤ cap
  ·have hmul : (n + m) * i.size ≤ cap * i.size := Nat.mul_le_mul_right _ hroom
   have hnl := hs.newsLen
   have hfit2 : off + n * i.size + news.length ≤ cur.size := by rw [hnl]; rw [Nat.add_mul] at hmul; omega
   have hr := run_append_room_src (P := P) w t tx ty e i ht hi g off n cap x m news hs hroom
    (fun j hj => by rw [cell_of_block hg]; simp [show off + n * i.size + j < cur.size by omega]) (fun j hj => free_of_block hg _)
   have hb := setCells_block news (off + n * i.size) cur w hg hfit2
   refine ⟨_, _, _, hr, ⟨hlen, .inr ⟨g, off, cap, _, rfl, hb, hroom, hcm, ?_, ?_⟩⟩, (setCells_fr g news _ w).mono (fun x hx _ => by simpa [Value.ownBlock] using hx), .inl rfl⟩
   ·simp only [List.size_toArray, List.length_append, List.length_take, List.length_drop, Array.length_toList]
    omega
   ·have h5 : (cur.toList.take (off + n * i.size)).drop off = xs := by
     rw [← htake, List.drop_take]; congr 1; omega
    have h6 : off ≤ (cur.toList.take (off + n * i.size)).length := by simp; omega
    rw [List.append_assoc, List.drop_append_of_le_length h6, h5, ← List.append_assoc, ← hlen]
    exact List.take_left
  ·have hr := run_append_grow_src (P := P) w t tx ty e i z ht hi hz (.some ⟨g, off, none⟩) n cap xs
    (by
     have := run_firstCells_some (P := P) w.drew i.size n ⟨g, off, none⟩ n cap xs hv.1 (fun j u hu => by rw [addr_add]; exact hv.cell hu)
     exact this)
    x m news hs (by omega) (by omega) (hfit cap (by omega))
   exact ⟨_, _, _, hr, grown cap (by omega), (Fr.refl _ w).drew.alloc _, .inr rfl⟩
/-- At the list of a plain region's operations. -/
theorem wpList_app {P : Program} {w : World} {ops : Array Oper} {rest : List Oper} {o : Oper} {a : Act} {Q : Exit → Act → World → Prop} (hgd : o.guard = none) (s x : Operand) (t tx : TypeId)
  (ho : o.op = .call { callee := .builtin .append, args := #[s, x], argTypes := #[t, tx] })
  {e : TypeId} {i : TypeInfo} {z : Value} {size bytes : Nat} (ht : P.underlying t = .some (.slice e)) (hi : P.info? e = .some i) (hz : i.zero = .some z)
  (hsize : i.size = size) (hby : i.bytes = bytes) (hzs : z.cells.size = size) (v vx : Value) (n m : Nat) (xs news : List Value) (hvs : a.eval s = v) (hvx : a.eval x = vx) (hv : Sl w e size v n xs) (h1 : ∀ u ∈ xs, u.oneCell' = true)
  (hs : Src P size tx vx m news w) (h63 : n + m ≤ maxLen) (hbytes : (n + m) * bytes ≤ 140737488355328) (H : Nat) (hH : w.heap.size = H)
  (h : ∀ b c w', Sl w' e size (.slice b (n + m) c) (n + m) (xs ++ news) → Fr v.ownBlock.toList w w' → ((Value.slice b (n + m) c).ownBlock = v.ownBlock ∨ (Value.slice b (n + m) c).ownBlock = .some H) → wpList P ops Q rest (a.put o.dst (.slice b (n + m) c)) w') :
  wpList P ops Q (o :: rest) a w := by
 refine wpList_plain hgd fun K hK => ?_
 obtain ⟨b, c, w', hr, h2, h3, h4⟩ := run_app (P := P) w o.type ht hi hz hsize hby hzs hv h1 hs h63 hbytes
 unfold Oper.wp execOp
 simp only [ho, resolve, invoke, builtin, Sem.run_bind, Sem.run_pure, Result.andThen_ok, List.map_toArray, List.map_cons, List.map_nil, hvs, hvx, hr]
 subst hH
 exact hK _ _ (h b c w' h2 h3 h4)
/-- At a step of a region that draws its order. -/
theorem step_app {P : Program} {w : World} {ops : Array Oper} {o : Oper} {a : Act} {K : Act → World → Prop} {Q : Exit → Act → World → Prop} {E : Prop} (hgd : o.guard = none) (s x : Operand) (t tx : TypeId)
  (ho : o.op = .call { callee := .builtin .append, args := #[s, x], argTypes := #[t, tx] })
  {e : TypeId} {i : TypeInfo} {z : Value} {size bytes : Nat} (ht : P.underlying t = .some (.slice e)) (hi : P.info? e = .some i) (hz : i.zero = .some z)
  (hsize : i.size = size) (hby : i.bytes = bytes) (hzs : z.cells.size = size) (v vx : Value) (n m : Nat) (xs news : List Value) (hvs : a.eval s = v) (hvx : a.eval x = vx) (hv : Sl w e size v n xs) (h1 : ∀ u ∈ xs, u.oneCell' = true)
  (hs : Src P size tx vx m news w) (h63 : n + m ≤ maxLen) (hbytes : (n + m) * bytes ≤ 140737488355328) (H : Nat) (hH : w.heap.size = H)
  (h : ∀ b c w', Sl w' e size (.slice b (n + m) c) (n + m) (xs ++ news) → Fr v.ownBlock.toList w w' → ((Value.slice b (n + m) c).ownBlock = v.ownBlock ∨ (Value.slice b (n + m) c).ownBlock = .some H) → K (a.put o.dst (.slice b (n + m) c)) w') :
  if Region.wanted o (yielded ops a.tmps) = true then Oper.wp P o a w K Q else E := by
 have hw : Region.wanted o (yielded ops a.tmps) = true := by simp [Region.wanted, hgd]
 rw [if_pos hw]
 obtain ⟨b, c, w', hr, h2, h3, h4⟩ := run_app (P := P) w o.type ht hi hz hsize hby hzs hv h1 hs h63 hbytes
 unfold Oper.wp execOp
 simp only [ho, resolve, invoke, builtin, Sem.run_bind, Sem.run_pure, Result.andThen_ok, List.map_toArray, List.map_cons, List.map_nil, hvs, hvx, hr]
 subst hH
 exact h b c w' h2 h3 h4
/-- A piece of it. -/
theorem Sl.slice {a : Option Addr} {c lo hi : Nat} (h : Sl w e size (.slice a n c) n xs) (h1 : lo ≤ hi) (h2 : hi ≤ n) :
  Sl w e size (.slice (if c = lo then a else a.map (·.add (lo * size))) (hi - lo) (c - lo)) (hi - lo) ((xs.drop (lo * size)).take ((hi - lo) * size)) := by
 have hm1 : (hi - lo) * size + lo * size ≤ n * size := by rw [← Nat.add_mul]; exact Nat.mul_le_mul_right _ (by omega)
 refine ⟨by rw [List.length_take, List.length_drop, h.1]; omega, ?_⟩
 rcases h.2 with ⟨hv, rfl⟩ | ⟨g, off, cap, cur, hv, hgg, hnc, hcm, hcs, ht⟩
 ·simp at hv
  obtain ⟨rfl, rfl⟩ := hv
  left
  have : lo = 0 := by omega
  have : hi = 0 := by omega
  subst_vars
  simp
 ·simp at hv
  obtain ⟨rfl, rfl⟩ := hv
  right
  by_cases hc : c = lo
  ·subst hc
   have e1 : hi = c := by omega
   subst e1
   refine ⟨g, off, 0, cur, by simp, hgg, by omega, by omega, by omega, ?_⟩
   simp
  ·refine ⟨g, off + lo * size, c - lo, cur, by simp [hc, addr_add], hgg, by omega, by omega, ?_, ?_⟩
   ·have : lo * size + (c - lo) * size = c * size := by rw [← Nat.add_mul]; congr 1; omega
    omega
   ·rw [← ht, List.drop_take, List.take_take, List.drop_drop]
    congr 1
    omega
/-- One of its cells is written. -/
theorem Sl.set {g off c : Nat} (h : Sl w e size (.slice (some ⟨g, off, none⟩) n c) n xs) (j : Nat) (u : Value) : Sl (w.setCell ⟨g, off + j, none⟩ u) e size (.slice (some ⟨g, off, none⟩) n c) n (xs.set j u) := by
 refine ⟨by rw [List.length_set]; exact h.1, ?_⟩
 rcases h.2 with ⟨h1, _⟩ | ⟨g', off', cap, cur, h1, hgg, a1, a2, a3, ht⟩
 ·simp at h1
 ·simp at h1
  obtain ⟨⟨rfl, rfl⟩, rfl⟩ := h1
  refine .inr ⟨g, off, c, _, rfl, block_set_same hgg _ _, a1, a2, by simpa using a3, ?_⟩
  rw [Array.toList_setIfInBounds, List.drop_set, if_neg (by omega), show off + j - off = j by omega, ← ht, List.take_set]
theorem run_slice_from {P : Program} {t e' : TypeId} {i : TypeInfo} (ht : P.underlying t = .some (.slice e')) (hi : P.info? e' = .some i) (a : Option Addr) (n c : Nat) (lo : Nat) (h : lo ≤ n) (w : World) :
  (Instr.slice t (.slice a n c) (.some (.int .i64 lo)) none none).run P w = .ok (.slice (if c = lo then a else a.map (·.add (lo * i.size))) (n - lo) (c - lo)) w := by
 simp [Instr.slice, run_underlying ht, Instr.sliceBounds, Instr.sliceBound, asIntOf, sizeOf, typeInfo, hi, h]
theorem run_slice_upto {P : Program} {t e' : TypeId} {i : TypeInfo} (ht : P.underlying t = .some (.slice e')) (hi : P.info? e' = .some i) (a : Option Addr) (n c : Nat) (up : Nat) (h : up ≤ c) (w : World) :
  (Instr.slice t (.slice a n c) none (.some (.int .i64 up)) none).run P w = .ok (.slice (if c = 0 then a else a.map (·.add (0 * i.size))) (up - 0) (c - 0)) w := by
 simp [Instr.slice, run_underlying ht, Instr.sliceBounds, Instr.sliceBound, asIntOf, sizeOf, typeInfo, hi, h]
end
/-- Lists of values of one length each, one behind the other: the i-th value of the k-th. -/
theorem flat_get {α : Type} {f : α → List Value} {s : Nat} (hf : ∀ a, (f a).length = s) : ∀ (l : List α) (k : Nat) (hk : k < l.length) (i : Nat), i < s → (l.flatMap f)[k * s + i]? = (f l[k])[i]?
 | [], k, hk, _, _ => by simp at hk
 | a :: l, 0, _, i, hi => by simp [List.flatMap_cons, List.getElem?_append_left, hf, hi]
 | a :: l, k + 1, hk, i, hi => by
  have e1 : (k + 1) * s + i = s + (k * s + i) := by rw [Nat.add_mul]; omega
  rw [List.flatMap_cons, e1, List.getElem?_append_right (by rw [hf]; omega), hf, Nat.add_sub_cancel_left]
  simpa using flat_get hf l k (by simpa using hk) i hi
theorem flat_len {α : Type} {f : α → List Value} {s : Nat} (hf : ∀ a, (f a).length = s) (l : List α) : (l.flatMap f).length = l.length * s := by
 induction l with
 | nil => simp
 | cons a l ih => rw [List.flatMap_cons, List.length_append, ih, hf, List.length_cons, Nat.add_mul]; omega
/-- A slice that is only read: n elements of so many cells; they read xs. -/
def Rd (w : World) (size : Nat) (v : Value) (n : Nat) (xs : List Value) : Prop :=
 xs.length = n * size ∧ ∃ a c, v = .slice a n c ∧ (n = 0 ∨ ∃ b o, a = some ⟨b, o, none⟩ ∧ ∀ j u, xs[j]? = some u → w.cell? ⟨b, o + j, none⟩ = some u)
theorem Rd.fr {w w' : World} {size : Nat} {v : Value} {n : Nat} {xs : List Value} {F : List Nat} (h : Rd w size v n xs) (k : Fr F w w') (hF : Ge w.heap.size F) : Rd w' size v n xs := by
 obtain ⟨h1, a, c, rfl, h2⟩ := h
 refine ⟨h1, a, c, rfl, ?_⟩
 rcases h2 with h2 | ⟨b, o, rfl, h2⟩
 ·exact .inl h2
 ·refine .inr ⟨b, o, rfl, fun j u hj => ?_⟩
  have hc := h2 j u hj
  exact cell_fr k hc (fun hb => by have := hF b hb; have := World.block_lt_of_cell? w _ hc; simp at this; omega)
theorem Rd.pos {w : World} {size : Nat} {v : Value} {n : Nat} {xs : List Value} (h : Rd w size v n xs) (hn : 0 < n) : ∃ b o c, v = .slice (some ⟨b, o, none⟩) n c ∧ ∀ j u, xs[j]? = some u → w.cell? ⟨b, o + j, none⟩ = some u := by
 obtain ⟨h1, a, c, rfl, h2⟩ := h
 rcases h2 with h2 | ⟨b, o, rfl, h2⟩
 ·omega
 ·exact ⟨b, o, c, rfl, h2⟩
end Go.Proofs.YtfeicmpbfbhiiaaGreat
set_option linter.unusedVariables false
set_option linter.unusedSimpArgs false
namespace Go.Proofs.YtfeicmpbfbhiiaaGreat
open Go.RowKit
structure Lk where
 v : ByteArray
 p : Nat
 n : Nat
 t : Bool
def Lk.enc (a : Lk) : List Value := [.string a.v, .int .i64 a.p, .int .i64 a.n, .bool a.t]
def Lk.zero : Lk := ⟨⟨#[]⟩, 0, 0, false⟩
def up {α : Type} (f : Nat → α) (i : Nat) (x : α) : Nat → α := fun k => if k = i then x else f k
theorem up_same {α : Type} (f : Nat → α) (i : Nat) (x : α) : up f i x i = x := by simp [up]
theorem up_other {α : Type} (f : Nat → α) (i j : Nat) (x : α) (h : j ≠ i) : up f i x j = f j := by simp [up, h]
/-- The arena's cells. -/
def arena (f : Nat → Lk) (m : Nat) : List Value := (List.range m).flatMap fun i => (f i).enc
theorem range_get {F : Nat → List Value} {s : Nat} (hF : ∀ i, (F i).length = s) (m i j : Nat) (hi : i < m) (hj : j < s) : ((List.range m).flatMap F)[i * s + j]? = (F i)[j]? := by
 rw [flat_get hF (List.range m) i (by simpa using hi) j hj]
 simp
theorem range_len {F : Nat → List Value} {s : Nat} (hF : ∀ i, (F i).length = s) (m : Nat) : ((List.range m).flatMap F).length = m * s := by rw [flat_len hF]; simp
theorem range_set {F : Nat → List Value} {s : Nat} (hF : ∀ i, (F i).length = s) (m h j : Nat) (hh : h < m) (hj : j < s) (u : Value) :
  ((List.range m).flatMap F).set (h * s + j) u = (List.range m).flatMap (fun i => if i = h then (F i).set j u else F i) := by
 have hF2 : ∀ i, ((fun i => if i = h then (F i).set j u else F i) i).length = s := by intro i; simp only; split <;> simp [hF]
 have hlt : h * s + j < m * s := by
  have : (h + 1) * s ≤ m * s := Nat.mul_le_mul_right _ hh
  rw [Nat.add_mul] at this; omega
 apply List.ext_getElem?
 intro k
 by_cases hk : k < m * s
 ·have hs : 0 < s := by omega
  have hi : k / s < m := by rw [Nat.div_lt_iff_lt_mul hs]; exact hk
  have hr : k % s < s := Nat.mod_lt _ hs
  have e1 : k = k / s * s + k % s := by rw [Nat.mul_comm]; exact (Nat.div_add_mod k s).symm
  generalize k / s = a at *
  generalize k % s = b at *
  subst e1
  rw [range_get hF2 m a b hi hr, List.getElem?_set]
  by_cases c : h * s + j = a * s + b
  ·have ha : h = a := by
    rcases Nat.lt_trichotomy h a with h1 | h1 | h1
    ·have : (h + 1) * s ≤ a * s := Nat.mul_le_mul_right _ h1
     rw [Nat.add_mul] at this; omega
    ·exact h1
    ·have : (a + 1) * s ≤ h * s := Nat.mul_le_mul_right _ h1
     rw [Nat.add_mul] at this; omega
   subst ha
   have hb : j = b := by omega
   subst hb
   rw [if_pos rfl, if_pos (by rw [range_len hF]; exact hlt)]
   show some u = (if h = h then (F h).set j u else F h)[j]?
   rw [if_pos rfl, List.getElem?_set, if_pos rfl, if_pos (by rw [hF]; exact hj)]
  ·rw [if_neg c, range_get hF m a b hi hr]
   split
   ·rename_i e; subst e
    rw [List.getElem?_set, if_neg (by intro e; apply c; rw [e])]
   ·rfl
 ·rw [List.getElem?_eq_none (by rw [List.length_set, range_len hF]; omega), List.getElem?_eq_none (by rw [range_len hF2]; omega)]
theorem range_congr {F G : Nat → List Value} {m : Nat} (h : ∀ i, i < m → F i = G i) : (List.range m).flatMap F = (List.range m).flatMap G := by
 rw [List.flatMap_def, List.flatMap_def, List.map_congr_left fun i hi => h i (List.mem_range.1 hi)]
theorem arena_get (f : Nat → Lk) (m i j : Nat) (hi : i < m) (hj : j < 4) : (arena f m)[i * 4 + j]? = (f i).enc[j]? := range_get (F := fun i => (f i).enc) (fun _ => rfl) m i j hi hj
theorem arena_set (f : Nat → Lk) (m h j : Nat) (hh : h < m) (hj : j < 4) (u : Value) (x : Lk) (hx : x.enc = (f h).enc.set j u) : (arena f m).set (h * 4 + j) u = arena (up f h x) m := by
 unfold arena
 rw [range_set (F := fun i => (f i).enc) (fun _ => rfl) m h j hh hj u]
 refine range_congr fun i _ => ?_
 by_cases c : i = h
 ·subst c; simp [up, hx]
 ·simp [up, c]
theorem arena_snoc (f : Nat → Lk) (m : Nat) (x : Lk) : arena (up f m x) (m + 1) = arena f m ++ x.enc := by
 unfold arena
 rw [List.range_succ, List.flatMap_append]
 congr 1
 ·exact range_congr fun i hi => by simp [up, show i ≠ m by omega]
 ·simp [up]
theorem arena_one (f : Nat → Lk) (m : Nat) : ∀ u ∈ arena f m, u.oneCell' = true := by
 intro u hu
 obtain ⟨i, _, hi⟩ := List.mem_flatMap.1 hu
 simp [Lk.enc] at hi
 rcases hi with rfl | rfl | rfl | rfl <;> rfl
/-- From a on, these, up to b: next and prev agree. -/
def Seg (f : Nat → Lk) : Nat → List Nat → Nat → Prop
 | a, [], b => (f a).n = b ∧ (f b).p = a
 | a, h :: t, b => (f a).n = h ∧ (f h).p = a ∧ Seg f h t b
theorem Seg.congr {f g : Nat → Lk} : ∀ {l : List Nat} {a b : Nat}, Seg f a l b → (∀ i, i ∈ a :: l → (g i).n = (f i).n) → (∀ i, i ∈ l ++ [b] → (g i).p = (f i).p) → Seg g a l b
 | [], a, b, h, h1, h2 => ⟨by rw [h1 a (by simp)]; exact h.1, by rw [h2 b (by simp)]; exact h.2⟩
 | x :: t, a, b, h, h1, h2 => ⟨by rw [h1 a (by simp)]; exact h.1, by rw [h2 x (by simp)]; exact h.2.1, h.2.2.congr (fun i hi => h1 i (List.mem_cons_of_mem _ hi)) (fun i hi => h2 i (by simp at hi ⊢; grind))⟩
theorem Seg.append {f : Nat → Lk} {h b : Nat} {l2 : List Nat} : ∀ {l1 : List Nat} {a : Nat}, Seg f a (l1 ++ h :: l2) b ↔ Seg f a l1 h ∧ Seg f h l2 b
 | [], a => by simp [Seg, and_assoc]
 | x :: t, a => by simp [Seg, Seg.append (l1 := t), and_assoc]
/-- What stands last ahead of b. -/
theorem Seg.last {f : Nat → Lk} : ∀ {l : List Nat} {a b : Nat}, Seg f a l b → (f b).p ∈ a :: l ∧ (f (f b).p).n = b
 | [], a, b, h => by obtain ⟨h1, h2⟩ := h; rw [h2]; exact ⟨by simp, h1⟩
 | x :: t, a, b, h => ⟨List.mem_cons_of_mem _ h.2.2.last.1, h.2.2.last.2⟩
theorem Seg.first {f : Nat → Lk} {l : List Nat} {a b : Nat} (h : Seg f a l b) : (f a).n = (l ++ [b]).head (by simp) := by
 cases l with
 | nil => exact h.1
 | cons x t => exact h.1
/-- A handle is taken from between its neighbours. -/
theorem Seg.lift {f g : Nat → Lk} {h b : Nat} {l2 : List Nat} (h2 : Seg f h l2 b) : ∀ {l1 : List Nat} {a : Nat}, Seg f a l1 h → (a :: l1 ++ h :: l2).Nodup → (∀ x, x ∈ l1 ++ h :: l2 → x ≠ b) →
  (g (f h).p).n = (f h).n → (g (f h).n).p = (f h).p → (∀ i, i ≠ (f h).p → i ≠ h → (g i).n = (f i).n) → (∀ i, i ≠ (f h).n → i ≠ h → (g i).p = (f i).p) → h ≠ b → Seg g a (l1 ++ l2) b
 | [], a, h1, hn, hb, g1, g2, g3, g4, hhb => by
  obtain ⟨k1, k2⟩ := h1
  rw [k2] at g1 g2 g3
  simp only [List.nil_append]
  cases l2 with
  | nil =>
   obtain ⟨e1, e2⟩ := h2
   rw [e1] at g1 g2
   exact ⟨g1, g2⟩
  | cons x t =>
   obtain ⟨e1, e2, e3⟩ := h2
   rw [e1] at g1 g2 g4
   refine ⟨g1, g2, e3.congr (fun i hi => g3 i ?_ ?_) (fun i hi => g4 i ?_ ?_)⟩
   ·rintro rfl; simp at hn hi; rcases hi with rfl | hi <;> simp_all
   ·rintro rfl; simp at hn hi; rcases hi with rfl | hi <;> simp_all
   ·rintro rfl
    rcases List.mem_append.1 hi with hi | hi
    ·simp at hn; exact hn.2.2.1 hi
    ·simp at hi; exact hb i (by simp) hi
   ·rintro rfl
    rcases List.mem_append.1 hi with hi | hi
    ·simp at hn; exact hn.2.1.2 hi
    ·simp at hi; exact hhb hi
 | y :: t, a, h1, hn, hb, g1, g2, g3, g4, hhb => by
  obtain ⟨k1, k2, k3⟩ := h1
  have hl := k3.last
  refine ⟨?_, ?_, Seg.lift h2 k3 (List.nodup_cons.1 hn).2 (fun x hx => hb x (List.mem_cons_of_mem _ hx)) g1 g2 g3 g4 hhb⟩
  ·rw [g3 a ?_ ?_]; exact k1
   ·intro e
    have := (List.nodup_cons.1 hn).1
    apply this
    rw [e]
    exact List.mem_append_left _ hl.1
   ·rintro rfl
    exact (List.nodup_cons.1 hn).1 (by simp)
  ·rw [g4 y ?_ ?_]; exact k2
   ·intro e
    have hf := h2.first
    have hn2 := (List.nodup_cons.1 hn).2
    have : y ∈ l2 ++ [b] := by rw [e, hf]; exact List.head_mem _
    rcases List.mem_append.1 this with hy | hy
    ·exact (List.nodup_cons.1 hn2).1 (by simp [hy])
    ·simp at hy; exact hb y (by simp) hy
   ·rintro rfl
    exact (List.nodup_cons.1 (List.nodup_cons.1 hn).2).1 (by simp)
/-- A handle is laid at the end. -/
theorem Seg.snoc {f g : Nat → Lk} {h b : Nat} : ∀ {l : List Nat} {a : Nat}, Seg f a l b → (a :: l).Nodup → h ∉ a :: l → h ≠ b → b ∉ l →
  (g h).p = (f b).p → (g h).n = b → (g (f b).p).n = h → (g b).p = h → (∀ i, i ≠ (f b).p → i ≠ h → (g i).n = (f i).n) → (∀ i, i ≠ b → i ≠ h → (g i).p = (f i).p) → Seg g a (l ++ [h]) b
 | [], a, h1, hn, hh, hhb, hbl, g1, g2, g3, g4, g5, g6 => by
  obtain ⟨k1, k2⟩ := h1
  rw [k2] at g1 g3
  exact ⟨g3, g1, g2, g4⟩
 | y :: t, a, h1, hn, hh, hhb, hbl, g1, g2, g3, g4, g5, g6 => by
  obtain ⟨k1, k2, k3⟩ := h1
  have hl := k3.last
  refine ⟨?_, ?_, Seg.snoc k3 (List.nodup_cons.1 hn).2 (fun hx => hh (List.mem_cons_of_mem _ hx)) hhb (fun hx => hbl (List.mem_cons_of_mem _ hx)) g1 g2 g3 g4 g5 g6⟩
  ·rw [g5 a ?_ ?_]; exact k1
   ·intro e
    exact (List.nodup_cons.1 hn).1 (by rw [e]; exact hl.1)
   ·rintro rfl; exact hh (by simp)
  ·rw [g6 y ?_ ?_]; exact k2
   ·rintro rfl; exact hbl (by simp)
   ·rintro rfl; exact hh (by simp)
/-- An arena of m links, the free places fr, the row L: handles with their values. -/
structure LInv (m : Nat) (f : Nat → Lk) (fr : List Nat) (L : List (Nat × ByteArray)) : Prop where
 size : m = L.length + fr.length + 1
 seg : Seg f 0 (L.map (·.1)) 0
 at_ : ∀ e, e ∈ L → 0 < e.1 ∧ e.1 < m ∧ (f e.1).t = true ∧ (f e.1).v = e.2
 nd : (L.map (·.1)).Nodup
 all : ∀ i, (f i).t = true → i < m → i ∈ L.map (·.1)
 frnd : fr.Nodup
 free : ∀ i, i ∈ fr → 0 < i ∧ i < m ∧ (f i).t = false
/-- The handle at the front; 0: there is none. -/
def hd0 (L : List (Nat × ByteArray)) : Nat := (L.map (·.1)).headD 0
theorem LInv.bd {m : Nat} {f : Nat → Lk} {fr : List Nat} {L : List (Nat × ByteArray)} (h : LInv m f fr L) : ∀ i, i ∈ (0 : Nat) :: L.map (·.1) → i < m := by
 intro i hi
 rcases List.mem_cons.1 hi with rfl | hi
 ·have := h.size; omega
 ·obtain ⟨e, he, rfl⟩ := List.mem_map.1 hi
  exact (h.at_ e he).2.1
theorem LInv.zero {m : Nat} {f : Nat → Lk} {fr : List Nat} {L : List (Nat × ByteArray)} (h : LInv m f fr L) : 0 ∉ L.map (·.1) := by
 intro hi
 obtain ⟨e, he, h0⟩ := List.mem_map.1 hi
 have := (h.at_ e he).1
 omega
theorem LInv.pv {m : Nat} {f : Nat → Lk} {fr : List Nat} {L : List (Nat × ByteArray)} (h : LInv m f fr L) : (f 0).p < m := h.bd _ h.seg.last.1
theorem LInv.nil : LInv 1 (fun _ => Lk.zero) [] [] := ⟨rfl, ⟨rfl, rfl⟩, (fun e h => by cases h), List.nodup_nil, (fun i hi => by cases hi), List.nodup_nil, (fun e h => by cases h)⟩
/-- A value is laid at the back, by a handle h that is free (or the first one behind the arena). -/
theorem LInv.push {m m' h : Nat} {f g : Nat → Lk} {fr fr' : List Nat} {L : List (Nat × ByteArray)} (i : LInv m f fr L) (v : ByteArray) (hh : (fr = fr' ++ [h] ∧ m' = m) ∨ (fr = [] ∧ fr' = [] ∧ h = m ∧ m' = m + 1))
  (hg : g = up (up (up f h ⟨v, (f 0).p, 0, true⟩) (f 0).p { up f h ⟨v, (f 0).p, 0, true⟩ (f 0).p with n := h }) 0 { up (up f h ⟨v, (f 0).p, 0, true⟩) (f 0).p { up f h ⟨v, (f 0).p, 0, true⟩ (f 0).p with n := h } 0 with p := h }) :
  LInv m' g fr' (L ++ [(h, v)]) := by
 have hfree : 0 < h ∧ h < m' ∧ h ∉ L.map (·.1) := by
  rcases hh with ⟨rfl, rfl⟩ | ⟨rfl, rfl, rfl, rfl⟩
  ·obtain ⟨a, b, c⟩ := i.free h (by simp)
   refine ⟨a, b, fun hm => ?_⟩
   obtain ⟨e, he, rfl⟩ := List.mem_map.1 hm
   rw [(i.at_ e he).2.2.1] at c
   cases c
  ·refine ⟨by have := i.size; omega, by omega, fun hm => ?_⟩
   have := i.bd h (List.mem_cons_of_mem _ hm)
   omega
 obtain ⟨h0, hm', hL⟩ := hfree
 have hmm : m ≤ m' := by rcases hh with ⟨_, rfl⟩ | ⟨_, _, _, rfl⟩ <;> omega
 have hpv := i.seg.last
 have hph : (f 0).p ≠ h := by
  intro e
  rcases List.mem_cons.1 hpv.1 with e1 | e1
  ·omega
  ·rw [e] at e1; exact hL e1
 have ght : ∀ k, k ≠ h → (g k).t = (f k).t ∧ (g k).v = (f k).v := by
  intro k hk
  subst hg
  by_cases c1 : k = 0 <;> by_cases c2 : k = (f 0).p <;> simp_all [up]
  all_goals (repeat' split) <;> simp_all
 have gh : (g h).t = true ∧ (g h).v = v ∧ (g h).p = (f 0).p ∧ (g h).n = 0 := by
  have e1 : h ≠ 0 := by omega
  subst hg
  simp [up, e1, hph.symm]
 refine ⟨?_, ?_, ?_, ?_, ?_, ?_, ?_⟩
 ·have := i.size
  rcases hh with ⟨rfl, rfl⟩ | ⟨rfl, rfl, rfl, rfl⟩
  ·simp at this ⊢; omega
  ·simp at this ⊢; omega
 ·rw [List.map_append]
  refine i.seg.snoc (h := h) (List.nodup_cons.2 ⟨i.zero, i.nd⟩) (fun hx => ?_) (by omega) i.zero gh.2.2.1 gh.2.2.2 ?_ ?_ ?_ ?_
  ·rcases List.mem_cons.1 hx with hx | hx
   ·omega
   ·exact hL hx
  ·subst hg
   by_cases c : (f 0).p = 0
   ·simp [up, c]
   ·simp [up, c]
  ·subst hg; simp [up]
  ·intro k k1 k2
   subst hg
   by_cases c : k = 0
   ·subst c; simp [up, Ne.symm k1, Ne.symm k2]
    rw [if_neg (by omega)]
    rw [if_neg (by omega)]
   ·simp [up, c, k1, k2]
  ·intro k k1 k2
   subst hg
   by_cases c : k = (f 0).p
   ·simp [up, k1]; rw [if_pos c]; rw [if_neg hph, ← c]
   ·simp [up, c, k1, k2]
 ·intro e he
  rcases List.mem_append.1 he with he | he
  ·obtain ⟨a, b, c, d⟩ := i.at_ e he
   have hne : e.1 ≠ h := fun e1 => hL (by rw [← e1]; exact List.mem_map_of_mem he)
   exact ⟨a, by omega, by rw [(ght _ hne).1]; exact c, by rw [(ght _ hne).2]; exact d⟩
  ·simp at he
   subst he
   exact ⟨h0, hm', gh.1, gh.2.1⟩
 ·rw [List.map_append]
  simp only [List.map_cons, List.map_nil]
  rw [List.nodup_append]
  exact ⟨i.nd, by simp, by intro a ha b hb; simp at hb; subst hb; rintro rfl; exact hL ha⟩
 ·intro k hk hkm
  by_cases c : k = h
  ·simp [c]
  ·rw [(ght _ c).1] at hk
   have : k < m := by
    rcases hh with ⟨_, rfl⟩ | ⟨_, _, rfl, rfl⟩ <;> omega
   have := i.all k hk this
   rw [List.map_append]
   exact List.mem_append_left _ this
 ·rcases hh with ⟨rfl, _⟩ | ⟨_, rfl, _⟩
  ·exact (List.nodup_append.1 i.frnd).1
  ·simp
 ·intro k hk
  rcases hh with ⟨rfl, rfl⟩ | ⟨_, rfl, _⟩
  ·obtain ⟨a, b, c⟩ := i.free k (by simp [hk])
   have : k ≠ h := by rintro rfl; exact (List.nodup_append.1 i.frnd).2.2 k hk k (by simp) rfl
   exact ⟨a, b, by rw [(ght _ this).1]; exact c⟩
  ·simp at hk
theorem LInv.fresh {m m' h : Nat} {f : Nat → Lk} {fr fr' : List Nat} {L : List (Nat × ByteArray)} (i : LInv m f fr L) (hh : (fr = fr' ++ [h] ∧ m' = m) ∨ (fr = [] ∧ fr' = [] ∧ h = m ∧ m' = m + 1)) :
  0 < h ∧ h < m' ∧ h ∉ L.map (·.1) ∧ (f 0).p ≠ h ∧ (f 0).p < m' := by
 have hfree : 0 < h ∧ h < m' ∧ h ∉ L.map (·.1) := by
  rcases hh with ⟨rfl, rfl⟩ | ⟨rfl, rfl, rfl, rfl⟩
  ·obtain ⟨a, b, c⟩ := i.free h (by simp)
   refine ⟨a, b, fun hm => ?_⟩
   obtain ⟨e, he, rfl⟩ := List.mem_map.1 hm
   rw [(i.at_ e he).2.2.1] at c
   cases c
  ·refine ⟨by have := i.size; omega, by omega, fun hm => ?_⟩
   have := i.bd h (List.mem_cons_of_mem _ hm)
   omega
 have hmm : m ≤ m' := by rcases hh with ⟨_, rfl⟩ | ⟨_, _, _, rfl⟩ <;> omega
 refine ⟨hfree.1, hfree.2.1, hfree.2.2, ?_, Nat.lt_of_lt_of_le i.pv hmm⟩
 intro e
 rcases List.mem_cons.1 i.seg.last.1 with e1 | e1
 ·omega
 ·rw [e] at e1; exact hfree.2.2 e1
/-- A handle is taken away. -/
theorem LInv.remove {m h : Nat} {f g : Nat → Lk} {fr : List Nat} {L1 L2 : List (Nat × ByteArray)} {v : ByteArray} (i : LInv m f fr (L1 ++ (h, v) :: L2))
  (g1 : (g (f h).p).n = (f h).n ∨ (f h).p = h) (g2 : (g (f h).n).p = (f h).p ∨ (f h).n = h) (g3 : ∀ k, k ≠ (f h).p → k ≠ h → (g k).n = (f k).n) (g4 : ∀ k, k ≠ (f h).n → k ≠ h → (g k).p = (f k).p)
  (g5 : ∀ k, k ≠ h → (g k).t = (f k).t ∧ (g k).v = (f k).v) (g6 : (g h).t = false) : LInv m g (fr ++ [h]) (L1 ++ L2) := by
 have hz := i.zero
 have hnd := i.nd
 have hat := i.at_ (h, v) (by simp)
 have hseg := i.seg
 simp only [List.map_append, List.map_cons] at hseg hnd hz
 obtain ⟨s1, s2⟩ := Seg.append.1 hseg
 have hh0 : h ≠ 0 := by have := hat.1; simp at this; omega
 have hnd0 : (0 :: (L1.map (·.1)) ++ h :: L2.map (·.1)).Nodup := List.nodup_cons.2 ⟨hz, hnd⟩
 have hsp := s1.last
 have hp : (f h).p ≠ h := by
  intro e
  rw [e] at hsp
  rcases List.mem_cons.1 hsp.1 with e1 | e1
  ·exact hh0 e1
  ·exact (List.nodup_append.1 hnd).2.2 h e1 h (by simp) rfl
 have hn : (f h).n ≠ h := by
  intro e
  have hf := s2.first
  have : h ∈ L2.map (·.1) ++ [0] := by rw [← e, hf]; exact List.head_mem _
  rcases List.mem_append.1 this with e1 | e1
  ·exact (List.nodup_cons.1 (List.nodup_append.1 hnd).2.1).1 e1
  ·simp at e1; exact hh0 e1
 refine ⟨?_, ?_, ?_, ?_, ?_, ?_, ?_⟩
 ·have := i.size; simp at this ⊢; omega
 ·rw [List.map_append]
  refine Seg.lift s2 s1 hnd0 (fun x hx => ?_) (g1.resolve_right hp) (g2.resolve_right hn) g3 g4 hh0
  rintro rfl
  exact hz hx
 ·intro e he
  have hne : e.1 ≠ h := by
   rintro e1
   rcases List.mem_append.1 he with he | he
   ·exact (List.nodup_append.1 hnd).2.2 e.1 (List.mem_map_of_mem he) h (by simp) e1
   ·exact (List.nodup_cons.1 (List.nodup_append.1 hnd).2.1).1 (by rw [← e1]; exact List.mem_map_of_mem he)
  obtain ⟨a, b, c, d⟩ := i.at_ e (by simp at he ⊢; grind)
  exact ⟨a, b, by rw [(g5 _ hne).1]; exact c, by rw [(g5 _ hne).2]; exact d⟩
 ·rw [List.map_append]
  exact hnd.sublist (List.Sublist.append (List.Sublist.refl _) (List.sublist_cons_self _ _))
 ·intro k hk hkm
  have hne : k ≠ h := by rintro rfl; rw [g6] at hk; cases hk
  rw [(g5 _ hne).1] at hk
  have := i.all k hk hkm
  simp only [List.map_append, List.map_cons, List.mem_append, List.mem_cons] at this ⊢
  grind
 ·rw [List.nodup_append]
  refine ⟨i.frnd, by simp, ?_⟩
  intro a ha b hb
  simp at hb
  subst hb
  rintro rfl
  have := (i.free a ha).2.2
  have h2 := hat.2.2.1
  simp at h2
  rw [h2] at this
  cases this
 ·intro k hk
  rcases List.mem_append.1 hk with hk | hk
  ·obtain ⟨a, b, c⟩ := i.free k hk
   refine ⟨a, b, ?_⟩
   by_cases e : k = h
   ·rw [e]; exact g6
   ·rw [(g5 _ e).1]; exact c
  ·simp at hk
   subst hk
   exact ⟨hat.1, hat.2.1, g6⟩
end Go.Proofs.YtfeicmpbfbhiiaaGreat
set_option linter.unusedVariables false
set_option linter.unusedSimpArgs false
namespace Go.Proofs.YtfeicmpbfbhiiaaGreat
open Go.RowKit
structure Pl (α : Type) where
 is : Nat
 key : ByteArray
 v : α
def cnt (f : Nat → Bool) : Nat → Nat
 | 0 => 0
 | m + 1 => cnt f m + (f m).toNat
theorem cnt_congr {f g : Nat → Bool} : ∀ {m : Nat}, (∀ i, i < m → f i = g i) → cnt f m = cnt g m
 | 0, _ => rfl
 | m + 1, h => by simp only [cnt]; rw [cnt_congr (m := m) (fun i hi => h i (by omega)), h m (by omega)]
theorem cnt_up {f g : Nat → Bool} {i : Nat} : ∀ {m : Nat}, i < m → (∀ k, k ≠ i → g k = f k) → cnt g m + (f i).toNat = cnt f m + (g i).toNat
 | m + 1, hi, h => by
  simp only [cnt]
  by_cases e : i = m
  ·subst e
   rw [cnt_congr (m := i) (f := g) (g := f) (fun k hk => h k (by omega))]
   omega
  ·have := cnt_up (m := m) (by omega) h
   rw [h m (Ne.symm e)]
   omega
theorem cnt_lt {f : Nat → Bool} : ∀ {m : Nat}, cnt f m < m → ∃ i, i < m ∧ f i = false
 | m + 1, h => by
  simp only [cnt] at h
  cases e : f m with
  | false => exact ⟨m, by omega, e⟩
  | true =>
   rw [e] at h
   obtain ⟨i, hi, h2⟩ := cnt_lt (m := m) (by simp at h; omega)
   exact ⟨i, by omega, h2⟩
theorem cnt_pos {f : Nat → Bool} {i : Nat} : ∀ {m : Nat}, i < m → f i = true → 0 < cnt f m
 | m + 1, hi, h => by
  simp only [cnt]
  by_cases e : i = m
  ·subst e; rw [h]; simp
  ·have := cnt_pos (m := m) (by omega) h; omega
theorem cnt_mono {f g : Nat → Bool} : ∀ {m : Nat}, (∀ i, i < m → f i = true → g i = true) → cnt f m ≤ cnt g m
 | 0, _ => Nat.le_refl _
 | m + 1, h => by
  have h1 := cnt_mono (m := m) (fun i hi => h i (by omega))
  have h2 := h m (by omega)
  simp only [cnt]
  cases e : f m <;> cases e2 : g m <;> simp_all <;> omega
theorem cnt_le_of_le (f : Nat → Bool) {a : Nat} : ∀ {b : Nat}, a ≤ b → cnt f a ≤ cnt f b
 | 0, h => by
  have : a = 0 := by omega
  subst this; exact Nat.le_refl _
 | b + 1, h => by
  by_cases e : a = b + 1
  ·subst e; exact Nat.le_refl _
  ·have := cnt_le_of_le f (a := a) (b := b) (by omega); simp only [cnt]; omega
section
variable {α : Type}
def isF (T : Nat → Pl α) (i : Nat) : Bool := (T i).is == 2
def isU (T : Nat → Pl α) (i : Nat) : Bool := (T i).is != 0
/-- A table of m places: it holds M; n keys; so many places are not empty. -/
structure TInv (m : Nat) (T : Nat → Pl α) (st : ByteArray → Nat) (M : ByteArray → Option α) (n used : Nat) : Prop where
 m8 : 8 ≤ m
 stl : ∀ k, st k < m
 le2 : ∀ i, i < m → (T i).is ≤ 2
 ok : ∀ i, i < m → (T i).is = 2 → M (T i).key = some (T i).v
 uniq : ∀ i j, i < m → j < m → (T i).is = 2 → (T j).is = 2 → (T i).key = (T j).key → i = j
 path : ∀ i, i < m → (T i).is = 2 → ∃ d, d < m ∧ i = (st (T i).key + d) % m ∧ ∀ d', d' < d → (T ((st (T i).key + d') % m)).is ≠ 0
 cover : ∀ k x, M k = some x → ∃ i, i < m ∧ (T i).is = 2 ∧ (T i).key = k
 cn : n = cnt (isF T) m
 cu : used = cnt (isU T) m
 room : used < m
variable {m n used : Nat} {T : Nat → Pl α} {st : ByteArray → Nat} {M : ByteArray → Option α}
theorem TInv.nle (h : TInv m T st M n used) : n ≤ used := by
 rw [h.cn, h.cu]
 exact cnt_mono (fun i _ hi => by simp [isF] at hi; simp [isU, hi])
/-- From any place on there is an empty one. -/
theorem TInv.empty (h : TInv m T st M n used) (s : Nat) (hs : s < m) : ∃ e, e < m ∧ (T ((s + e) % m)).is = 0 := by
 obtain ⟨i, hi, h0⟩ := cnt_lt (f := isU T) (m := m) (by rw [← h.cu]; exact h.room)
 simp [isU] at h0
 refine ⟨(i + m - s) % m, Nat.mod_lt _ (by omega), ?_⟩
 have : (s + (i + m - s) % m) % m = i := by
  by_cases c : s ≤ i
  ·rw [show i + m - s = (i - s) + m by omega, Nat.add_mod_right, Nat.mod_eq_of_lt (show i - s < m by omega), show s + (i - s) = i by omega, Nat.mod_eq_of_lt hi]
  ·rw [Nat.mod_eq_of_lt (show i + m - s < m by omega), show s + (i + m - s) = i + m by omega, Nat.add_mod_right, Nat.mod_eq_of_lt hi]
 rw [this]; exact h0
/-- What find gives. -/
def Found1 (m : Nat) (T : Nat → Pl α) (st : ByteArray → Nat) (M : ByteArray → Option α) (k : ByteArray) (i : Nat) (b : Bool) : Prop :=
 i < m ∧ (b = true → (T i).is = 2 ∧ (T i).key = k) ∧ (b = false → M k = none ∧ (T i).is ≠ 2 ∧ ∃ d, d < m ∧ i = (st k + d) % m ∧ ∀ d', d' < d → (T ((st k + d') % m)).is ≠ 0)
/-- So far, on the way from the key's own place. -/
def Way (m : Nat) (T : Nat → Pl α) (s : Nat) (k : ByteArray) (d : Nat) (free : Option Nat) : Prop :=
 (∀ d', d' < d → (T ((s + d') % m)).is ≠ 0 ∧ ¬ ((T ((s + d') % m)).is = 2 ∧ (T ((s + d') % m)).key = k)) ∧ (∀ i, free = some i → ∃ e, e < d ∧ i = (s + e) % m ∧ (T i).is = 1)
theorem TInv.none_of_way (h : TInv m T st M n used) {k : ByteArray} {d : Nat} {free : Option Nat} (w : Way m T (st k) k d free) (h0 : (T ((st k + d) % m)).is = 0) : M k = none := by
 cases e : M k with
 | none => rfl
 | some x =>
  exfalso
  obtain ⟨i, hi, h2, hk⟩ := h.cover k x e
  obtain ⟨d2, hd2, hp, hq⟩ := h.path i hi h2
  rw [hk] at hp hq
  rcases Nat.lt_trichotomy d2 d with c | c | c
  ·exact (w.1 d2 c).2 (by rw [← hp]; exact ⟨h2, hk⟩)
  ·subst c; rw [← hp, h2] at h0; cases h0
  ·exact hq d c h0
theorem TInv.found_empty (h : TInv m T st M n used) {k : ByteArray} {d : Nat} {free : Option Nat} (w : Way m T (st k) k d free) (h0 : (T ((st k + d) % m)).is = 0) (hd : d < m) :
  Found1 m T st M k ((free.getD ((st k + d) % m))) false := by
 have hm := h.m8
 have hn := h.none_of_way w h0
 cases free with
 | none => exact ⟨Nat.mod_lt _ (by omega), by simp, fun _ => ⟨hn, by simp [h0], d, hd, rfl, fun d' hd' => (w.1 d' hd').1⟩⟩
 | some i =>
  obtain ⟨e, he, hi, h1⟩ := w.2 i rfl
  refine ⟨by rw [Option.getD_some, hi]; exact Nat.mod_lt _ (by omega), by simp, fun _ => ⟨hn, by simp [h1], e, by omega, by simp [hi], fun d' hd' => (w.1 d' (by omega)).1⟩⟩
theorem Way.start (m : Nat) (T : Nat → Pl α) (s : Nat) (k : ByteArray) : Way m T s k 0 none := ⟨fun d' h => absurd h (Nat.not_lt_zero _), by simp⟩
theorem Way.step {s d : Nat} {k : ByteArray} {free : Option Nat} (w : Way m T s k d free) (h0 : (T ((s + d) % m)).is ≠ 0) (hf : ¬ ((T ((s + d) % m)).is = 2 ∧ (T ((s + d) % m)).key = k)) : Way m T s k (d + 1) free := by
 refine ⟨fun d' hd' => ?_, fun i hi => ?_⟩
 ·by_cases e : d' = d
  ·subst e; exact ⟨h0, hf⟩
  ·exact w.1 d' (by omega)
 ·obtain ⟨e, he, h1⟩ := w.2 i hi
  exact ⟨e, by omega, h1⟩
theorem Way.free {s d : Nat} {k : ByteArray} (w : Way m T s k d none) (h1 : (T ((s + d) % m)).is = 1) : Way m T s k (d + 1) (some ((s + d) % m)) := by
 have w2 := w.step (by omega) (by omega)
 exact ⟨w2.1, fun i hi => by simp at hi; subst hi; exact ⟨d, by omega, rfl, h1⟩⟩
theorem step_mod (s d m : Nat) (hm : 0 < m) : ((s + d) % m + 1) % m = (s + (d + 1)) % m := by
 rw [Nat.mod_add_mod, Nat.add_assoc]
def upM (M : ByteArray → Option α) (k : ByteArray) (x : Option α) : ByteArray → Option α := fun k' => if k' = k then x else M k'
/-- A key that was nowhere is laid. -/
theorem TInv.lays (h : TInv m T st M n used) {k : ByteArray} {i : Nat} {x : α} (f : Found1 m T st M k i false) (hr : used + 1 < m) :
  TInv m (up T i ⟨2, k, x⟩) st (upM M k (some x)) (n + 1) (if (T i).is = 0 then used + 1 else used) := by
 obtain ⟨hi, _, hf⟩ := f
 obtain ⟨hn, h2, d, hd, hp, hq⟩ := hf rfl
 have other : ∀ j, j < m → (T j).is = 2 → (T j).key ≠ k := by
  intro j hj hj2 e
  have := h.ok j hj hj2
  rw [e, hn] at this
  cases this
 have nz : ∀ j, (T j).is ≠ 0 → (up T i ⟨2, k, x⟩ j).is ≠ 0 := by intro j hj; by_cases e : j = i <;> simp [up, e]; exact fun h => hj (by first | exact h | (subst e; exact h))
 refine ⟨h.m8, h.stl, ?_, ?_, ?_, ?_, ?_, ?_, ?_, ?_⟩
 ·intro j hj
  by_cases e : j = i
  ·simp [up, e]
  ·rw [up_other _ _ _ _ e]; exact h.le2 j hj
 ·intro j hj hj2
  by_cases e : j = i
  ·subst e; simp [up, upM]
  ·rw [up_other _ _ _ _ e] at hj2 ⊢
   rw [upM, if_neg (other j hj hj2)]
   exact h.ok j hj hj2
 ·intro a b ha hb ha2 hb2 hk
  by_cases e1 : a = i <;> by_cases e2 : b = i
  ·rw [e1, e2]
  ·subst e1
   rw [up_same, up_other _ _ _ _ e2] at hk
   rw [up_other _ _ _ _ e2] at hb2
   exact absurd hk.symm (other b hb hb2)
  ·subst e2
   rw [up_same, up_other _ _ _ _ e1] at hk
   rw [up_other _ _ _ _ e1] at ha2
   exact absurd hk (other a ha ha2)
  ·rw [up_other _ _ _ _ e1] at ha2 hk
   rw [up_other _ _ _ _ e2] at hb2 hk
   exact h.uniq a b ha hb ha2 hb2 hk
 ·intro j hj hj2
  by_cases e : j = i
  ·subst e
   rw [up_same]
   exact ⟨d, hd, hp, fun d' hd' => nz _ (hq d' hd')⟩
  ·rw [up_other _ _ _ _ e] at hj2 ⊢
   obtain ⟨d2, h1, h3, h4⟩ := h.path j hj hj2
   exact ⟨d2, h1, h3, fun d' hd' => nz _ (h4 d' hd')⟩
 ·intro k' x' hx
  by_cases e : k' = k
  ·exact ⟨i, hi, by simp [up], by simp [up, e]⟩
  ·rw [upM, if_neg e] at hx
   obtain ⟨j, hj, hj2, hk⟩ := h.cover k' x' hx
   have : j ≠ i := by rintro rfl; exact h2 hj2
   exact ⟨j, hj, by rw [up_other _ _ _ _ this]; exact hj2, by rw [up_other _ _ _ _ this]; exact hk⟩
 ·have := cnt_up (f := isF T) (g := isF (up T i ⟨2, k, x⟩)) (i := i) hi (fun k' hk' => by simp [isF, up_other _ _ _ _ hk'])
  rw [← h.cn] at this
  have e1 : isF T i = false := by simp [isF, h2]
  have e2 : isF (up T i ⟨2, k, x⟩) i = true := by simp [isF, up]
  rw [e1, e2] at this
  simpa using this.symm
 ·have := cnt_up (f := isU T) (g := isU (up T i ⟨2, k, x⟩)) (i := i) hi (fun k' hk' => by simp [isU, up_other _ _ _ _ hk'])
  rw [← h.cu] at this
  have e2 : isU (up T i ⟨2, k, x⟩) i = true := by simp [isU, up]
  rw [e2] at this
  by_cases c : (T i).is = 0
  ·have e1 : isU T i = false := by simp [isU, c]
   rw [e1] at this
   rw [if_pos c]; simpa using this.symm
  ·have e1 : isU T i = true := by simp [isU, c]
   rw [e1] at this
   rw [if_neg c]; simp at this; omega
 ·split <;> omega
/-- A key that is there gets another value. -/
theorem TInv.set (h : TInv m T st M n used) {k : ByteArray} {i : Nat} {x : α} (hi : i < m) (h2 : (T i).is = 2) (hk : (T i).key = k) : TInv m (up T i { T i with v := x }) st (upM M k (some x)) n used := by
 have eis : ∀ j, (up T i { T i with v := x } j).is = (T j).is := by intro j; by_cases e : j = i <;> simp [up, e]
 have ekey : ∀ j, (up T i { T i with v := x } j).key = (T j).key := by intro j; by_cases e : j = i <;> simp [up, e]
 refine ⟨h.m8, h.stl, ?_, ?_, ?_, ?_, ?_, ?_, ?_, h.room⟩
 ·intro j hj; rw [eis]; exact h.le2 j hj
 ·intro j hj hj2
  rw [eis] at hj2
  rw [ekey]
  by_cases e : j = i
  ·subst e; simp [up, upM, hk]
  ·rw [up_other _ _ _ _ e, upM, if_neg (fun hkk => e (h.uniq j i hj hi hj2 h2 (by rw [hk, hkk])))]
   exact h.ok j hj hj2
 ·intro a b ha hb ha2 hb2 hkk
  rw [eis] at ha2 hb2
  rw [ekey, ekey] at hkk
  exact h.uniq a b ha hb ha2 hb2 hkk
 ·intro j hj hj2
  rw [eis] at hj2
  rw [ekey]
  obtain ⟨d, a, b, c⟩ := h.path j hj hj2
  exact ⟨d, a, b, fun d' hd' => by rw [eis]; exact c d' hd'⟩
 ·intro k' x' hx
  by_cases e : k' = k
  ·subst e; exact ⟨i, hi, by rw [eis]; exact h2, by rw [ekey]; exact hk⟩
  ·rw [upM, if_neg e] at hx
   obtain ⟨j, a, b, c⟩ := h.cover k' x' hx
   exact ⟨j, a, by rw [eis]; exact b, by rw [ekey]; exact c⟩
 ·rw [h.cn]; exact cnt_congr fun j _ => by simp [isF, eis]
 ·rw [h.cu]; exact cnt_congr fun j _ => by simp [isU, eis]
/-- A key is taken away. -/
theorem TInv.del (h : TInv m T st M n used) {k k0 : ByteArray} {i : Nat} {x0 : α} (hi : i < m) (h2 : (T i).is = 2) (hk : (T i).key = k) : TInv m (up T i ⟨1, k0, x0⟩) st (upM M k none) (n - 1) used := by
 have enz : ∀ j, (up T i ⟨1, k0, x0⟩ j).is ≠ 0 ↔ (T j).is ≠ 0 := by intro j; by_cases e : j = i <;> simp [up, e, h2]
 have e2 : ∀ j, (up T i ⟨1, k0, x0⟩ j).is = 2 → j ≠ i ∧ (T j).is = 2 := by
  intro j hj
  by_cases e : j = i
  ·simp [up, e] at hj
  ·rw [up_other _ _ _ _ e] at hj; exact ⟨e, hj⟩
 refine ⟨h.m8, h.stl, ?_, ?_, ?_, ?_, ?_, ?_, ?_, h.room⟩
 ·intro j hj
  by_cases e : j = i
  ·simp [up, e]
  ·rw [up_other _ _ _ _ e]; exact h.le2 j hj
 ·intro j hj hj2
  obtain ⟨e, hj3⟩ := e2 j hj2
  rw [up_other _ _ _ _ e, upM, if_neg (fun hkk => e (h.uniq j i hj hi hj3 h2 (by rw [hk, hkk])))]
  exact h.ok j hj hj3
 ·intro a b ha hb ha2 hb2 hkk
  obtain ⟨a1, a3⟩ := e2 a ha2
  obtain ⟨b1, b3⟩ := e2 b hb2
  rw [up_other _ _ _ _ a1, up_other _ _ _ _ b1] at hkk
  exact h.uniq a b ha hb a3 b3 hkk
 ·intro j hj hj2
  obtain ⟨e, hj3⟩ := e2 j hj2
  rw [up_other _ _ _ _ e]
  obtain ⟨d, a, b, c⟩ := h.path j hj hj3
  exact ⟨d, a, b, fun d' hd' => (enz _).2 (c d' hd')⟩
 ·intro k' x' hx
  by_cases e : k' = k
  ·rw [upM, if_pos e] at hx; cases hx
  ·rw [upM, if_neg e] at hx
   obtain ⟨j, a, b, c⟩ := h.cover k' x' hx
   have : j ≠ i := by rintro rfl; exact e (by rw [← c, hk])
   exact ⟨j, a, by rw [up_other _ _ _ _ this]; exact b, by rw [up_other _ _ _ _ this]; exact c⟩
 ·have := cnt_up (f := isF T) (g := isF (up T i ⟨1, k0, x0⟩)) (i := i) hi (fun k' hk' => by simp [isF, up_other _ _ _ _ hk'])
  rw [← h.cn] at this
  have q1 : isF T i = true := by simp [isF, h2]
  have q2 : isF (up T i ⟨1, k0, x0⟩) i = false := by simp [isF, up]
  rw [q1, q2] at this
  simp at this
  omega
 ·rw [h.cu]
  refine cnt_congr fun j _ => ?_
  have := enz j
  simp only [isU]
  by_cases c : (T j).is = 0
  ·have : (up T i ⟨1, k0, x0⟩ j).is = 0 := Classical.byContradiction fun hh => (enz j).1 hh c
   simp [c, this]
  ·have := (enz j).2 c
   rw [bne_iff_ne.2 c, bne_iff_ne.2 this]
/-- A table with nothing. -/
theorem TInv.new (m : Nat) (hm : 8 ≤ m) (st : ByteArray → Nat) (hst : ∀ k, st k < m) (x0 : α) (k0 : ByteArray) : TInv m (fun _ => ⟨0, k0, x0⟩) st (fun _ => none) 0 0 := by
 have c1 : ∀ m, cnt (isF (fun _ : Nat => (⟨0, k0, x0⟩ : Pl α))) m = 0 := by intro m; induction m with | zero => rfl | succ m ih => simp [cnt, ih, isF]
 have c2 : ∀ m, cnt (isU (fun _ : Nat => (⟨0, k0, x0⟩ : Pl α))) m = 0 := by intro m; induction m with | zero => rfl | succ m ih => simp [cnt, ih, isU]
 exact ⟨hm, hst, fun _ _ => by simp, fun _ _ h => by simp at h, fun _ _ _ _ h => by simp at h, fun _ _ h => by simp at h, fun _ _ h => by simp at h, (c1 m).symm, (c2 m).symm, by omega⟩
/-- What is in the first j places. -/
noncomputable def upto (T : Nat → Pl α) (M : ByteArray → Option α) (j : Nat) : ByteArray → Option α := by
 classical exact fun k => if ∃ i, i < j ∧ (T i).is = 2 ∧ (T i).key = k then M k else none
theorem upto_zero (T : Nat → Pl α) (M : ByteArray → Option α) : upto T M 0 = fun _ => none := by funext k; simp [upto]
theorem TInv.upto_all (h : TInv m T st M n used) : upto T M m = M := by
 funext k
 unfold upto
 split
 ·rfl
 ·rename_i hne
  cases e : M k with
  | none => rfl
  | some x => exact absurd (h.cover k x e) hne
theorem TInv.upto_full (h : TInv m T st M n used) {j : Nat} (hj : j < m) (h2 : (T j).is = 2) : upto T M (j + 1) = upM (upto T M j) (T j).key (some (T j).v) ∧ upto T M j (T j).key = none := by
 constructor
 ·funext k
  unfold upto upM
  by_cases e : k = (T j).key
  ·subst e
   rw [if_pos ⟨j, by omega, h2, rfl⟩, if_pos rfl]
   exact h.ok j hj h2
  ·rw [if_neg e]
   show _ = (if ∃ i, i < j ∧ (T i).is = 2 ∧ (T i).key = k then M k else none)
   by_cases c : ∃ i, i < j ∧ (T i).is = 2 ∧ (T i).key = k
   ·rw [if_pos c]
    obtain ⟨i, a, b, d⟩ := c
    rw [if_pos ⟨i, by omega, b, d⟩]
   ·rw [if_neg c, if_neg]
    rintro ⟨i, a, b, d⟩
    by_cases q : i = j
    ·subst q; exact e d.symm
    ·exact c ⟨i, by omega, b, d⟩
 ·unfold upto
  rw [if_neg]
  rintro ⟨i, a, b, d⟩
  have := h.uniq i j (by omega) hj b h2 d
  omega
theorem TInv.upto_not (h : TInv m T st M n used) {j : Nat} (h2 : (T j).is ≠ 2) : upto T M (j + 1) = upto T M j := by
 funext k
 unfold upto
 by_cases c : ∃ i, i < j ∧ (T i).is = 2 ∧ (T i).key = k
 ·rw [if_pos c]
  obtain ⟨i, a, b, d⟩ := c
  rw [if_pos ⟨i, by omega, b, d⟩]
 ·rw [if_neg c, if_neg]
  rintro ⟨i, a, b, d⟩
  by_cases q : i = j
  ·subst q; exact h2 b
  ·exact c ⟨i, by omega, b, d⟩
theorem TInv.congrM (h : TInv m T st M n used) {M' : ByteArray → Option α} (e : M = M') : TInv m T st M' n used := e ▸ h
end
end Go.Proofs.YtfeicmpbfbhiiaaGreat
set_option linter.unusedVariables false
set_option linter.unusedSimpArgs false
namespace Go.Proofs.YtfeicmpbfbhiiaaGreat
open Go.RowKit
abbrev Rows := Nat → List ByteArray
def dropK (K : Rows) (key : ByteArray) : Rows := fun i => (K i).filter fun x => decide (x ≠ key)
def pushK (K : Rows) (r : Nat) (key : ByteArray) : Rows := up (dropK K key) r (dropK K key r ++ [key])
/-- How many keys k rows have. -/
def tot : Nat → Rows → Nat
 | 0, _ => 0
 | k + 1, K => tot k K + (K k).length
structure RNd (k : Nat) (K : Rows) : Prop where
 nd : ∀ i, (K i).Nodup
 dis : ∀ i j, i ≠ j → ∀ x, x ∈ K i → x ∉ K j
 out : ∀ i, k ≤ i → K i = []
 sz : ∀ i x, x ∈ K i → x.size ≤ maxLen
theorem mem_dropK {K : Rows} {key x : ByteArray} {i : Nat} : x ∈ dropK K key i ↔ x ∈ K i ∧ x ≠ key := by simp [dropK]
theorem dropK_not {K : Rows} {key : ByteArray} {i : Nat} (h : key ∉ K i) : dropK K key i = K i := by
 simp only [dropK]
 rw [List.filter_eq_self]
 intro a ha
 simp
 rintro rfl
 exact h ha
theorem dropK_none {K : Rows} {key : ByteArray} (h : ∀ i, key ∉ K i) : dropK K key = K := funext fun i => dropK_not (h i)
theorem not_mem_dropK {K : Rows} {key : ByteArray} (i : Nat) : key ∉ dropK K key i := by simp [mem_dropK]
theorem RNd.drop {k : Nat} {K : Rows} (h : RNd k K) (key : ByteArray) : RNd k (dropK K key) :=
 ⟨fun i => (h.nd i).filter _, fun i j hij x hx hy => h.dis i j hij x (mem_dropK.1 hx).1 (mem_dropK.1 hy).1, fun i hi => by simp [dropK, h.out i hi], fun i x hx => h.sz i x (mem_dropK.1 hx).1⟩
theorem RNd.push1 {k : Nat} {K : Rows} (h : RNd k K) {r : Nat} (hr : r < k) {key : ByteArray} (hk : ∀ i, key ∉ K i) (hz : key.size ≤ maxLen) : RNd k (up K r (K r ++ [key])) := by
 refine ⟨fun i => ?_, fun i j hij x hx hy => ?_, fun i hi => ?_, fun i x hx => ?_⟩
 ·by_cases e : i = r
  ·subst e
   rw [up_same, List.nodup_append]
   refine ⟨h.nd i, by simp, ?_⟩
   intro a ha b hb
   simp at hb
   subst hb
   rintro rfl
   exact hk i ha
  ·rw [up_other _ _ _ _ e]; exact h.nd i
 ·by_cases e : i = r
  ·subst e
   rw [up_same] at hx
   rw [up_other _ _ _ _ (Ne.symm hij)] at hy
   simp at hx
   rcases hx with hx | rfl
   ·exact h.dis i j hij x hx hy
   ·exact hk j hy
  ·rw [up_other _ _ _ _ e] at hx
   by_cases e2 : j = r
   ·subst e2
    rw [up_same] at hy
    simp at hy
    rcases hy with hy | rfl
    ·exact h.dis i j hij x hx hy
    ·exact hk i hx
   ·rw [up_other _ _ _ _ e2] at hy
    exact h.dis i j hij x hx hy
 ·rw [up_other _ _ _ _ (by omega)]; exact h.out i hi
 ·by_cases e : i = r
  ·subst e
   rw [up_same] at hx
   simp at hx
   rcases hx with hx | rfl
   ·exact h.sz i x hx
   ·exact hz
  ·rw [up_other _ _ _ _ e] at hx; exact h.sz i x hx
theorem RNd.push {k : Nat} {K : Rows} (h : RNd k K) {r : Nat} (hr : r < k) (key : ByteArray) (hz : key.size ≤ maxLen) : RNd k (pushK K r key) := (h.drop key).push1 hr not_mem_dropK hz
theorem RNd.nil (k : Nat) : RNd k (fun _ => []) := ⟨by simp, by simp, by simp, by simp⟩
theorem mem_pushK {K : Rows} {r i : Nat} {key x : ByteArray} : x ∈ pushK K r key i ↔ (x ∈ K i ∧ x ≠ key) ∨ (i = r ∧ x = key) := by
 unfold pushK
 by_cases e : i = r
 ·subst e; rw [up_same]; simp [mem_dropK]
 ·rw [up_other _ _ _ _ e]; simp [mem_dropK, e]
theorem tot_le {K K' : Rows} : ∀ {k : Nat}, (∀ i, i < k → (K' i).length ≤ (K i).length) → tot k K' ≤ tot k K
 | 0, _ => Nat.le_refl _
 | k + 1, h => by
  have h1 := tot_le (k := k) fun i hi => h i (by omega)
  have h2 := h k (by omega)
  simp only [tot]; omega
theorem tot_drop (k : Nat) (K : Rows) (key : ByteArray) : tot k (dropK K key) ≤ tot k K := tot_le fun i _ => List.length_filter_le _ _
theorem len_tot {K : Rows} : ∀ {k i : Nat}, i < k → (K i).length ≤ tot k K
 | k + 1, i, h => by
  simp only [tot]
  by_cases e : i = k
  ·subst e; omega
  ·have := len_tot (K := K) (k := k) (i := i) (by omega); omega
theorem tot_up (K : Rows) {r : Nat} (l : List ByteArray) : ∀ {k : Nat}, r < k → tot k (up K r l) + (K r).length = tot k K + l.length
 | k + 1, h => by
  simp only [tot]
  by_cases e : r = k
  ·subst e
   rw [up_same]
   have : tot r (up K r l) = tot r K := Nat.le_antisymm (tot_le fun i hi => by rw [up_other _ _ _ _ (by omega)]; exact Nat.le_refl _) (tot_le fun i hi => by rw [up_other _ _ _ _ (by omega)]; exact Nat.le_refl _)
   omega
  ·have := tot_up K (r := r) l (k := k) (by omega)
   rw [up_other _ _ _ _ (by omega)]
   omega
theorem tot_push {K : Rows} {k r : Nat} (hr : r < k) (key : ByteArray) : tot k (pushK K r key) ≤ tot k K + 1 := by
 have h1 := tot_up (dropK K key) (dropK K key r ++ [key]) hr
 have h2 := tot_drop k K key
 simp only [List.length_append, List.length_cons, List.length_nil] at h1
 unfold pushK
 omega
theorem dropK_one {K : Rows} {k : Nat} (hn : RNd k K) {i : Nat} {key : ByteArray} (hi : key ∈ K i) : dropK K key = up K i ((K i).filter fun x => decide (x ≠ key)) := by
 funext j
 by_cases e : j = i
 ·subst e; rw [up_same]; rfl
 ·rw [up_other _ _ _ _ e, dropK_not fun h => hn.dis i j (Ne.symm e) key hi h]
theorem len_filter_nd {l : List ByteArray} {key : ByteArray} (hn : l.Nodup) (h : key ∈ l) : (l.filter fun x => decide (x ≠ key)).length + 1 = l.length := by
 induction l with
 | nil => cases h
 | cons a l ih =>
  have hn2 := (List.nodup_cons.1 hn)
  by_cases e : a = key
  ·subst e
   rw [List.filter_cons_of_neg (by simp)]
   rw [List.filter_eq_self.2 (fun x hx => by simp; rintro rfl; exact hn2.1 hx)]
   rfl
  ·rw [List.filter_cons_of_pos (by simpa using e)]
   simp only [List.length_cons]
   have := ih hn2.2 (by simpa [Ne.symm e] using h)
   omega
theorem tot_drop_in {K : Rows} {k i : Nat} (hn : RNd k K) (hi : i < k) {key : ByteArray} (h : key ∈ K i) : tot k (dropK K key) + 1 = tot k K := by
 rw [dropK_one hn h]
 have h1 := tot_up K ((K i).filter fun x => decide (x ≠ key)) hi
 have h2 := len_filter_nd (hn.nd i) h
 omega
/-- The rows' keys, with their handles; where each key stands. -/
structure RCoh (k : Nat) (K : Rows) (L : Nat → List (Nat × ByteArray)) (M : ByteArray → Option (Nat × Nat)) : Prop where
 snd : ∀ i, i < k → (L i).map (·.2) = K i
 coh : ∀ key i h, M key = some (i, h) ↔ i < k ∧ (h, key) ∈ L i
theorem RCoh.isNone {k : Nat} {K : Rows} {L : Nat → List (Nat × ByteArray)} {M : ByteArray → Option (Nat × Nat)} (c : RCoh k K L M) (hn : RNd k K) {key : ByteArray} : M key = none ↔ ∀ i, key ∉ K i := by
 constructor
 ·intro h i hi
  by_cases e : i < k
  ·rw [← c.snd i e] at hi
   obtain ⟨⟨a, b⟩, h1, h2⟩ := List.mem_map.1 hi
   simp at h2
   subst h2
   have := (c.coh b i a).2 ⟨e, h1⟩
   rw [h] at this; cases this
  ·rw [hn.out i (by omega)] at hi; cases hi
 ·intro h
  cases hm : M key with
  | none => rfl
  | some p =>
   obtain ⟨i, a⟩ := p
   obtain ⟨h1, h2⟩ := (c.coh key i a).1 hm
   exfalso
   apply h i
   rw [← c.snd i h1]
   exact List.mem_map_of_mem (f := (·.2)) h2
theorem RCoh.isSome {k : Nat} {K : Rows} {L : Nat → List (Nat × ByteArray)} {M : ByteArray → Option (Nat × Nat)} (c : RCoh k K L M) {key : ByteArray} {i h : Nat} (hm : M key = some (i, h)) : i < k ∧ (h, key) ∈ L i ∧ key ∈ K i := by
 obtain ⟨h1, h2⟩ := (c.coh key i h).1 hm
 exact ⟨h1, h2, by rw [← c.snd i h1]; exact List.mem_map_of_mem (f := (·.2)) h2⟩
theorem RCoh.drop {k : Nat} {K : Rows} {L : Nat → List (Nat × ByteArray)} {M : ByteArray → Option (Nat × Nat)} (c : RCoh k K L M) (hn : RNd k K) {key : ByteArray} {i h : Nat} {L1 L2 : List (Nat × ByteArray)} (hi : i < k) (hL : L i = L1 ++ (h, key) :: L2) :
  RCoh k (dropK K key) (up L i (L1 ++ L2)) (upM M key none) := by
 have hK : K i = L1.map (·.2) ++ key :: L2.map (·.2) := by rw [← c.snd i hi, hL]; simp
 have hnd := hn.nd i
 rw [hK, List.nodup_append] at hnd
 obtain ⟨n1, n2, n3⟩ := hnd
 have k1 : key ∉ L1.map (·.2) := fun h => n3 key h key (by simp) rfl
 have k2 : key ∉ L2.map (·.2) := (List.nodup_cons.1 n2).1
 have hki : key ∈ K i := by rw [hK]; simp
 refine ⟨fun j hj => ?_, fun key' j h' => ?_⟩
 ·by_cases e : j = i
  ·subst e
   rw [up_same]
   unfold dropK
   rw [hK, List.filter_append, List.filter_cons_of_neg (by simp), List.filter_eq_self.2, List.filter_eq_self.2, List.map_append]
   ·intro a ha; simp; rintro rfl; exact k2 ha
   ·intro a ha; simp; rintro rfl; exact k1 ha
  ·rw [up_other _ _ _ _ e, c.snd j hj, dropK_not fun h => hn.dis i j (Ne.symm e) key hki h]
 ·by_cases e : key' = key
  ·subst e
   simp only [upM, if_true]
   constructor
   ·intro h; cases h
   ·rintro ⟨hj, hm⟩
    exfalso
    by_cases e : j = i
    ·subst e
     rw [up_same] at hm
     rcases List.mem_append.1 hm with hm | hm
     ·exact k1 (List.mem_map_of_mem (f := (·.2)) hm)
     ·exact k2 (List.mem_map_of_mem (f := (·.2)) hm)
    ·rw [up_other _ _ _ _ e] at hm
     have := List.mem_map_of_mem (f := (·.2)) hm
     rw [c.snd j hj] at this
     exact hn.dis i j (Ne.symm e) _ hki this
  ·simp only [upM, if_neg e]
   rw [c.coh]
   by_cases e2 : j = i
   ·subst e2
    rw [up_same, hL]
    simp [e]
   ·rw [up_other _ _ _ _ e2]
theorem RCoh.push {k : Nat} {K : Rows} {L : Nat → List (Nat × ByteArray)} {M : ByteArray → Option (Nat × Nat)} (c : RCoh k K L M) (hn : RNd k K) {key : ByteArray} {r h : Nat} (hr : r < k) (hk : ∀ i, key ∉ K i) :
  RCoh k (up K r (K r ++ [key])) (up L r (L r ++ [(h, key)])) (upM M key (some (r, h))) := by
 refine ⟨fun j hj => ?_, fun key' j h' => ?_⟩
 ·by_cases e : j = r
  ·subst e; rw [up_same, up_same, List.map_append, c.snd j hj]; rfl
  ·rw [up_other _ _ _ _ e, up_other _ _ _ _ e, c.snd j hj]
 ·by_cases e : key' = key
  ·subst e
   simp only [upM, if_true]
   have hno : ∀ i h', i < k → (h', key') ∉ L i := fun i h' hi hm => hk i (by rw [← c.snd i hi]; exact List.mem_map_of_mem (f := (·.2)) hm)
   constructor
   ·intro hh
    simp at hh
    obtain ⟨rfl, rfl⟩ := hh
    exact ⟨hr, by rw [up_same]; simp⟩
   ·rintro ⟨hj, hm⟩
    by_cases e : j = r
    ·subst e
     rw [up_same] at hm
     rcases List.mem_append.1 hm with hm | hm
     ·exact absurd hm (hno _ _ hj)
     ·simp at hm; simp [hm]
    ·rw [up_other _ _ _ _ e] at hm
     exact absurd hm (hno _ _ hj)
  ·simp only [upM, if_neg e]
   rw [c.coh]
   by_cases e2 : j = r
   ·subst e2
    rw [up_same]
    simp [e]
   ·rw [up_other _ _ _ _ e2]
theorem mem_split {α : Type} {a : α} {l : List α} (h : a ∈ l) : ∃ s t, l = s ++ a :: t := List.append_of_mem h
end Go.Proofs.YtfeicmpbfbhiiaaGreat
set_option linter.unusedVariables false
set_option linter.unusedSimpArgs false
namespace Go.Proofs.YtfeicmpbfbhiiaaGreat
open Go.RowKit
/-- A row's oldest key; the empty one, if there is none. -/
def oldest (K : Rows) (r : Nat) : ByteArray := (K r).headD ⟨#[]⟩
/-- A row has at most n keys: the oldest go. -/
def trim (K : Rows) (r n : Nat) : Rows := up K r ((K r).drop ((K r).length - n))
theorem oldest_mem {K : Rows} {r : Nat} (h : 0 < (K r).length) : oldest K r ∈ K r := by
 unfold oldest
 cases hk : K r with
 | nil => rw [hk] at h; simp at h
 | cons a l => simp
theorem dropK_oldest {k : Nat} {K : Rows} (hn : RNd k K) {r : Nat} (h : 0 < (K r).length) : dropK K (oldest K r) = up K r (K r).tail := by
 rw [dropK_one hn (oldest_mem h)]
 congr 1
 have hnd := hn.nd r
 unfold oldest
 cases hk : K r with
 | nil => rw [hk] at h; simp at h
 | cons a l =>
  rw [hk] at hnd
  have h1 := (List.nodup_cons.1 hnd).1
  simp only [List.headD_cons, List.tail_cons]
  rw [List.filter_cons_of_neg (by simp), List.filter_eq_self]
  intro x hx
  exact decide_eq_true fun e => h1 (e ▸ hx)
theorem up_up {α : Type} (f : Nat → α) (i : Nat) (x y : α) : up (up f i x) i y = up f i y := by
 funext k; simp only [up]; split <;> rfl
theorem up_self {α : Type} (f : Nat → α) (i : Nat) : up f i (f i) = f := by
 funext k; simp only [up]; split
 ·rename_i h; rw [h]
 ·rfl
/-- One round of 'drop the oldest'. -/
theorem trim_step {k : Nat} {K : Rows} (hn : RNd k K) {r n : Nat} (h : n < (K r).length) : trim (dropK K (oldest K r)) r n = trim K r n := by
 rw [dropK_oldest hn (by omega)]
 unfold trim
 rw [up_same, up_up, List.length_tail, List.drop_tail]
 congr 2
 omega
theorem trim_le {K : Rows} {r n : Nat} (h : (K r).length ≤ n) : trim K r n = K := by
 unfold trim
 rw [show (K r).length - n = 0 by omega, List.drop_zero, up_self]
theorem trim_len (K : Rows) (r n : Nat) : (trim K r n r).length = min (K r).length n := by
 unfold trim; rw [up_same, List.length_drop]; omega
theorem trim_other (K : Rows) {r i : Nat} (n : Nat) (h : i ≠ r) : trim K r n i = K i := up_other _ _ _ _ h
theorem RNd.sub {k : Nat} {K K' : Rows} (h : RNd k K) (hs : ∀ i, (K' i).Sublist (K i)) : RNd k K' :=
 ⟨fun i => (h.nd i).sublist (hs i), fun i j hij x hx hy => h.dis i j hij x ((hs i).subset hx) ((hs j).subset hy), fun i hi => by have := hs i; rw [h.out i hi] at this; exact List.sublist_nil.1 this, fun i x hx => h.sz i x ((hs i).subset hx)⟩
theorem RNd.trim {k : Nat} {K : Rows} (h : RNd k K) (r n : Nat) : RNd k (trim K r n) := h.sub fun i => by
 unfold Go.Proofs.YtfeicmpbfbhiiaaGreat.trim
 by_cases e : i = r
 ·subst e; rw [up_same]; exact List.drop_sublist _ _
 ·rw [up_other _ _ _ _ e]; exact List.Sublist.refl _
theorem oldest_sz {k : Nat} {K : Rows} (h : RNd k K) (r : Nat) : (oldest K r).size ≤ maxLen := by
 unfold oldest
 cases hk : K r with
 | nil => exact Nat.zero_le _
 | cons a l => exact h.sz r a (by rw [hk]; simp)
theorem push_other {K : Rows} {r i : Nat} {key : ByteArray} (h : i ≠ r) : pushK K r key i = dropK K key i := up_other _ _ _ _ h
theorem push_same {K : Rows} {r : Nat} {key : ByteArray} : pushK K r key r = dropK K key r ++ [key] := up_same _ _ _
theorem push_len (K : Rows) (r i : Nat) (key : ByteArray) : (pushK K r key i).length = (dropK K key i).length + (if i = r then 1 else 0) := by
 by_cases e : i = r
 ·subst e; rw [push_same]; simp
 ·rw [push_other e]; simp [e]
theorem drop_len_in {k : Nat} {K : Rows} (hn : RNd k K) {j : Nat} {key : ByteArray} (h : key ∈ K j) (i : Nat) : (dropK K key i).length + (if i = j then 1 else 0) = (K i).length := by
 by_cases e : i = j
 ·subst e
  have := len_filter_nd (hn.nd i) h
  simp [dropK] at this ⊢; omega
 ·rw [dropK_not fun h2 => hn.dis j i (Ne.symm e) key h h2]; simp [e]
theorem drop_len_le (K : Rows) (key : ByteArray) (i : Nat) : (dropK K key i).length ≤ (K i).length := List.length_filter_le _ _
theorem tot3 (K : Rows) : tot 3 K = (K 0).length + (K 1).length + (K 2).length := by simp [tot]
theorem tot4 (K : Rows) : tot 4 K = (K 0).length + (K 1).length + (K 2).length + (K 3).length := by simp [tot]
instance memB (a : ByteArray) (l : List ByteArray) : Decidable (a ∈ l) := decidable_of_iff (l.any (fun x => decide (x = a)) = true) (by simp)
structure Arc where
 K : Rows
 p : Nat
 c : Nat
def arcOusts (K : Rows) (recent : Bool) : List ByteArray × Rows :=
 let key := oldest K (if recent then 0 else 1)
 ([key], pushK K (if recent then 2 else 3) key)
def arcRec (K : Rows) (p : Nat) (again : Bool) : Bool := decide (0 < (K 0).length ∧ (p < (K 0).length ∨ ((K 0).length = p ∧ again = true) ∨ (K 1).length = 0))
def arcRepl (K : Rows) (p c : Nat) (again : Bool) : List ByteArray × Rows :=
 if (K 0).length + (K 1).length < c then ([], K) else arcOusts K (arcRec K p again)
def arcComes (K : Rows) (p c : Nat) : List ByteArray × Rows :=
 if c ≤ (K 0).length + (K 2).length ∧ (K 0).length < c then arcRepl (dropK K (oldest K 2)) p c false
 else if c ≤ (K 0).length + (K 2).length then ([oldest K 0], dropK K (oldest K 0))
 else if tot 4 K < c then ([], K)
 else if 2 * c ≤ tot 4 K then arcRepl (dropK K (oldest K 3)) p c false
 else arcRepl K p c false
def Arc.access (s : Arc) (key : ByteArray) : Bool × List ByteArray × Arc :=
 if key ∈ s.K 0 ∨ key ∈ s.K 1 then (true, [], { s with K := pushK s.K 1 key })
 else if key ∈ s.K 2 then
  let p := min s.c (s.p + max 1 ((s.K 3).length / (s.K 2).length))
  let r := arcRepl s.K p s.c false
  (false, r.1, { s with K := pushK r.2 1 key, p := p })
 else if key ∈ s.K 3 then
  let p := s.p - max 1 ((s.K 2).length / (s.K 3).length)
  let r := arcRepl s.K p s.c true
  (false, r.1, { s with K := pushK r.2 1 key, p := p })
 else
  let r := arcComes s.K s.p s.c
  (false, r.1, { s with K := pushK r.2 0 key })
def Arc.has (s : Arc) (key : ByteArray) : Bool := decide (key ∈ s.K 0 ∨ key ∈ s.K 1)
def Arc.len (s : Arc) : Nat := (s.K 0).length + (s.K 1).length
def arcTrim2 (c : Nat) (K : Rows) : Rows := trim K 2 (c - (K 0).length)
def arcTrim3 (c : Nat) (K : Rows) : Rows := trim K 3 (2 * c - ((K 0).length + (K 1).length + (K 2).length))
def Arc.load (s : Arc) (key : ByteArray) : Bool × Arc :=
 if s.has key = true ∨ s.len = s.c then (false, s)
 else (true, { s with K := arcTrim3 s.c (arcTrim2 s.c (pushK s.K 0 key)) })
def Arc.remove (s : Arc) (key : ByteArray) : Bool × Arc := if s.has key then (true, { s with K := dropK s.K key }) else (false, s)
def Arc.evict (s : Arc) : ByteArray × Bool × Arc :=
 if s.len = 0 then (⟨#[]⟩, false, s)
 else
  let b := arcRec s.K s.p false
  (oldest s.K (if b then 0 else 1), true, { s with K := (arcOusts s.K b).2 })
structure Arc.Inv (s : Arc) : Prop where
 nd : RNd 4 s.K
 c1 : 1 ≤ s.c
 c2 : s.c ≤ 1024
 pc : s.p ≤ s.c
 res : (s.K 0).length + (s.K 1).length ≤ s.c
 rc : (s.K 0).length + (s.K 2).length ≤ s.c
 all : tot 4 s.K ≤ 2 * s.c
theorem push_move {k : Nat} {K : Rows} (hn : RNd k K) {j : Nat} {key : ByteArray} (h : key ∈ K j) (r i : Nat) : (pushK K r key i).length + (if i = j then 1 else 0) = (K i).length + (if i = r then 1 else 0) := by
 have h1 := drop_len_in hn h i
 have h2 := push_len K r i key
 omega
theorem push_new {K : Rows} {key : ByteArray} (h : ∀ i, key ∉ K i) (r i : Nat) : (pushK K r key i).length = (K i).length + (if i = r then 1 else 0) := by
 rw [push_len, dropK_none h]
theorem not_rows {K : Rows} {k : Nat} (hn : RNd k K) {key : ByteArray} (h : ∀ i, i < k → key ∉ K i) : ∀ i, key ∉ K i := fun i hi => by
 by_cases e : i < k
 ·exact h i e hi
 ·rw [hn.out i (by omega)] at hi; cases hi
theorem arcRec_t {K : Rows} {p : Nat} {again : Bool} (h : arcRec K p again = true) : 0 < (K 0).length := by unfold arcRec at h; simp at h; omega
theorem arcRec_f {K : Rows} {p : Nat} {again : Bool} (h : arcRec K p again = false) (h0 : 0 < (K 0).length + (K 1).length) : 0 < (K 1).length := by
 by_cases e : (K 1).length = 0
 ·exfalso
  have : arcRec K p again = true := decide_eq_true ⟨by omega, .inr (.inr e)⟩
  rw [this] at h; cases h
 ·omega
/-- What ousts does to the lengths. -/
theorem arcOusts_len {K : Rows} (hn : RNd 4 K) {b : Bool} (hb : 0 < (K (if b then 0 else 1)).length) :
  RNd 4 (arcOusts K b).2 ∧ ((arcOusts K b).2 0).length + b.toNat = (K 0).length ∧ ((arcOusts K b).2 1).length + (!b).toNat = (K 1).length ∧ ((arcOusts K b).2 2).length = (K 2).length + b.toNat ∧ ((arcOusts K b).2 3).length = (K 3).length + (!b).toNat ∧
  ∀ x, x ≠ oldest K (if b then 0 else 1) → ∀ i, x ∈ (arcOusts K b).2 i ↔ x ∈ K i := by
 unfold arcOusts
 have hm := oldest_mem hb
 have h := fun r i => push_move hn hm r i
 refine ⟨hn.push (by split <;> omega) _ (oldest_sz hn _), ?_, ?_, ?_, ?_, fun x hx i => by rw [mem_pushK]; simp [hx]⟩
 ·have := h (if b then 2 else 3) 0; cases b <;> simp at this ⊢ <;> omega
 ·have := h (if b then 2 else 3) 1; cases b <;> simp at this ⊢ <;> omega
 ·have := h (if b then 2 else 3) 2; cases b <;> simp at this ⊢ <;> omega
 ·have := h (if b then 2 else 3) 3; cases b <;> simp at this ⊢ <;> omega
theorem arcRepl_len {K : Rows} (hn : RNd 4 K) {c : Nat} (hc : 1 ≤ c) (hr : (K 0).length + (K 1).length ≤ c) (p : Nat) (again : Bool) :
  RNd 4 (arcRepl K p c again).2 ∧ ((arcRepl K p c again).2 0).length + ((arcRepl K p c again).2 1).length < c ∧ ((arcRepl K p c again).2 0).length + ((arcRepl K p c again).2 2).length = (K 0).length + (K 2).length ∧
  ((arcRepl K p c again).2 1).length + ((arcRepl K p c again).2 3).length = (K 1).length + (K 3).length ∧ ((arcRepl K p c again).2 0).length ≤ (K 0).length := by
 unfold arcRepl
 split
 ·exact ⟨hn, by omega, rfl, rfl, Nat.le_refl _⟩
 ·rename_i hlt
  have hb : 0 < (K (if arcRec K p again then 0 else 1)).length := by
   cases e : arcRec K p again with
   | true => simpa using arcRec_t e
   | false => simpa using arcRec_f e (by omega)
  obtain ⟨h1, h2, h3, h4, h5, _⟩ := arcOusts_len hn hb
  refine ⟨h1, ?_, by omega, by omega, by omega⟩
  cases e : arcRec K p again <;> rw [e] at h2 h3 <;> simp at h2 h3 ⊢ <;> omega
/-- A key that is in no row but among the ghosts is where it was, or ... : replaces does not touch it. -/
theorem arcRepl_mem {K : Rows} (hn : RNd 4 K) {c p : Nat} (hc : 1 ≤ c) {again : Bool} {key : ByteArray} {j : Nat} (h : key ∈ K j) (hj : 2 ≤ j) : key ∈ (arcRepl K p c again).2 j := by
 unfold arcRepl
 split
 ·exact h
 ·rename_i hlt
  have hb : 0 < (K (if arcRec K p again then 0 else 1)).length := by
   cases e : arcRec K p again with
   | true => simpa using arcRec_t e
   | false => simpa using arcRec_f e (by omega)
  refine ((arcOusts_len hn hb).2.2.2.2.2 key ?_ j).2 h
  rintro rfl
  exact hn.dis j _ (by split <;> omega) _ h (oldest_mem hb)
theorem arcRepl_new {K : Rows} (hn : RNd 4 K) {c p : Nat} (hc : 1 ≤ c) {again : Bool} {key : ByteArray} (h : ∀ i, key ∉ K i) : ∀ i, key ∉ (arcRepl K p c again).2 i := by
 unfold arcRepl
 split
 ·exact h
 ·rename_i hlt
  have hb : 0 < (K (if arcRec K p again then 0 else 1)).length := by
   cases e : arcRec K p again with
   | true => simpa using arcRec_t e
   | false => simpa using arcRec_f e (by omega)
  intro i hi
  refine h i (((arcOusts_len hn hb).2.2.2.2.2 key ?_ i).1 hi)
  rintro rfl
  exact h _ (oldest_mem hb)
theorem arcComes_len {K : Rows} (hn : RNd 4 K) {c : Nat} (hc : 1 ≤ c) (hr : (K 0).length + (K 1).length ≤ c) (hrec : (K 0).length + (K 2).length ≤ c) (hall : tot 4 K ≤ 2 * c) (p : Nat) :
  RNd 4 (arcComes K p c).2 ∧ ((arcComes K p c).2 0).length + ((arcComes K p c).2 1).length < c ∧ ((arcComes K p c).2 0).length + ((arcComes K p c).2 2).length < c ∧ tot 4 (arcComes K p c).2 < 2 * c := by
 rw [tot4] at hall
 unfold arcComes
 split
 ·rename_i h1
  have hb : 0 < (K 2).length := by omega
  have hd := drop_len_in hn (oldest_mem hb)
  have d0 := hd 0
  have d1 := hd 1
  have d2 := hd 2
  have d3 := hd 3
  simp at d0 d1 d2 d3
  obtain ⟨a1, a2, a3, a4, a5⟩ := arcRepl_len (hn.drop (oldest K 2)) hc (by omega) p false
  exact ⟨a1, a2, by omega, by rw [tot4]; omega⟩
 ·split
  ·have hb : 0 < (K 0).length := by omega
   have hd := drop_len_in hn (oldest_mem hb)
   have d0 := hd 0
   have d1 := hd 1
   have d2 := hd 2
   have d3 := hd 3
   simp at d0 d1 d2 d3
   exact ⟨hn.drop _, by simp only; omega, by simp only; omega, by rw [tot4]; simp only; omega⟩
  ·split
   ·rename_i h1 h2 h3
    rw [tot4] at h3
    exact ⟨hn, by simp only; omega, by simp only; omega, by rw [tot4]; simp only; omega⟩
   ·split
    ·rename_i h1 h2 h3 h4
     rw [tot4] at h4
     have hb : 0 < (K 3).length := by omega
     have hd := drop_len_in hn (oldest_mem hb)
     have d0 := hd 0
     have d1 := hd 1
     have d2 := hd 2
     have d3 := hd 3
     simp at d0 d1 d2 d3
     obtain ⟨a1, a2, a3, a4, a5⟩ := arcRepl_len (hn.drop (oldest K 3)) hc (by omega) p false
     exact ⟨a1, a2, by omega, by rw [tot4]; omega⟩
    ·rename_i h1 h2 h3 h4
     rw [tot4] at h4
     obtain ⟨a1, a2, a3, a4, a5⟩ := arcRepl_len hn hc hr p false
     exact ⟨a1, a2, by omega, by rw [tot4]; omega⟩
theorem arcComes_new {K : Rows} (hn : RNd 4 K) {c p : Nat} (hc : 1 ≤ c) {key : ByteArray} (h : ∀ i, key ∉ K i) : ∀ i, key ∉ (arcComes K p c).2 i := by
 unfold arcComes
 have hd : ∀ x i, key ∉ dropK K x i := fun x i hi => h i (mem_dropK.1 hi).1
 split
 ·exact arcRepl_new (hn.drop _) hc (hd _)
 ·split
  ·exact hd _
  ·split
   ·exact h
   ·split
    ·exact arcRepl_new (hn.drop _) hc (hd _)
    ·exact arcRepl_new hn hc h
theorem Arc.Inv.access {s : Arc} (h : s.Inv) {key : ByteArray} (hz : key.size ≤ maxLen) : (s.access key).2.2.Inv := by
 obtain ⟨hn, c1, c2, pc, res, rc, all⟩ := h
 rw [tot4] at all
 unfold Arc.access
 split
 ·rename_i hm
  have hn2 := hn.push (r := 1) (by omega) key hz
  rcases hm with hm | hm
  ·have hd := push_move hn hm 1
   have d0 := hd 0
   have d1 := hd 1
   have d2 := hd 2
   have d3 := hd 3
   simp at d0 d1 d2 d3
   exact ⟨hn2, c1, c2, pc, by simp only; omega, by simp only; omega, by rw [tot4]; simp only; omega⟩
  ·have hd := push_move hn hm 1
   have d0 := hd 0
   have d1 := hd 1
   have d2 := hd 2
   have d3 := hd 3
   simp at d0 d1 d2 d3
   exact ⟨hn2, c1, c2, pc, by simp only; omega, by simp only; omega, by rw [tot4]; simp only; omega⟩
 ·split
  ·rename_i hx hm
   have hd := push_move (arcRepl_len hn c1 res (min s.c (s.p + max 1 ((s.K 3).length / (s.K 2).length))) false).1 (arcRepl_mem (p := min s.c (s.p + max 1 ((s.K 3).length / (s.K 2).length))) (again := false) hn c1 hm (by omega)) 1
   obtain ⟨a1, a2, a3, a4, a5⟩ := arcRepl_len hn c1 res (min s.c (s.p + max 1 ((s.K 3).length / (s.K 2).length))) false
   have d0 := hd 0
   have d1 := hd 1
   have d2 := hd 2
   have d3 := hd 3
   simp at d0 d1 d2 d3
   exact ⟨a1.push (by omega) key hz, c1, c2, Nat.min_le_left _ _, by simp only; omega, by simp only; omega, by rw [tot4]; simp only; omega⟩
  ·split
   ·rename_i hx hx2 hm
    have hd := push_move (arcRepl_len hn c1 res (s.p - max 1 ((s.K 2).length / (s.K 3).length)) true).1 (arcRepl_mem (p := s.p - max 1 ((s.K 2).length / (s.K 3).length)) (again := true) hn c1 hm (by omega)) 1
    obtain ⟨a1, a2, a3, a4, a5⟩ := arcRepl_len hn c1 res (s.p - max 1 ((s.K 2).length / (s.K 3).length)) true
    have d0 := hd 0
    have d1 := hd 1
    have d2 := hd 2
    have d3 := hd 3
    simp at d0 d1 d2 d3
    exact ⟨a1.push (by omega) key hz, c1, c2, by simp only; omega, by simp only; omega, by simp only; omega, by rw [tot4]; simp only; omega⟩
   ·rename_i h1 h2 h3
    have hk : ∀ i, key ∉ s.K i := not_rows hn fun i hi => by
     have : i = 0 ∨ i = 1 ∨ i = 2 ∨ i = 3 := by omega
     rcases this with rfl | rfl | rfl | rfl
     ·exact fun h => h1 (.inl h)
     ·exact fun h => h1 (.inr h)
     ·exact h2
     ·exact h3
    obtain ⟨a1, a2, a3, a4⟩ := arcComes_len hn c1 res rc (by rw [tot4]; exact all) s.p
    have hd := push_new (arcComes_new (p := s.p) hn c1 hk) 0
    have d0 := hd 0
    have d1 := hd 1
    have d2 := hd 2
    have d3 := hd 3
    simp at d0 d1 d2 d3
    rw [tot4] at a4
    exact ⟨a1.push (by omega) key hz, c1, c2, pc, by simp only; omega, by simp only; omega, by rw [tot4]; simp only; omega⟩
theorem Arc.Inv.load {s : Arc} (h : s.Inv) {key : ByteArray} (hz : key.size ≤ maxLen) : (s.load key).2.Inv := by
 obtain ⟨hn, c1, c2, pc, res, rc, all⟩ := id h
 rw [tot4] at all
 unfold Arc.load
 split
 ·exact h
 ·rename_i hx
  simp only [not_or, Arc.len] at hx
  obtain ⟨hx1, hx2⟩ := hx
  have hn2 := hn.push (r := 0) (by omega) key hz
  have p0 := push_len s.K 0 0 key
  have p1 := push_len s.K 0 1 key
  have e0 := drop_len_le s.K key 0
  have e1 := drop_len_le s.K key 1
  simp at p0 p1
  have t2 := trim_len (pushK s.K 0 key) 2 (s.c - (pushK s.K 0 key 0).length)
  have t0 := trim_other (pushK s.K 0 key) (r := 2) (i := 0) (s.c - (pushK s.K 0 key 0).length) (by omega)
  have t1 := trim_other (pushK s.K 0 key) (r := 2) (i := 1) (s.c - (pushK s.K 0 key 0).length) (by omega)
  have hn3 := hn2.trim 2 (s.c - (pushK s.K 0 key 0).length)
  unfold arcTrim2 arcTrim3
  generalize hK2 : trim (pushK s.K 0 key) 2 (s.c - (pushK s.K 0 key 0).length) = K2 at *
  have u3 := trim_len K2 3 (2 * s.c - ((K2 0).length + (K2 1).length + (K2 2).length))
  have u0 := trim_other K2 (r := 3) (i := 0) (2 * s.c - ((K2 0).length + (K2 1).length + (K2 2).length)) (by omega)
  have u1 := trim_other K2 (r := 3) (i := 1) (2 * s.c - ((K2 0).length + (K2 1).length + (K2 2).length)) (by omega)
  have u2 := trim_other K2 (r := 3) (i := 2) (2 * s.c - ((K2 0).length + (K2 1).length + (K2 2).length)) (by omega)
  refine ⟨hn3.trim _ _, c1, c2, pc, ?_, ?_, ?_⟩
  ·simp only; rw [u0, u1, t0, t1]; omega
  ·simp only; rw [u0, u2, t2, t0]; omega
  ·rw [tot4]; simp only; rw [u3, u0, u1, u2, t2, t0, t1]; omega
theorem Arc.Inv.remove {s : Arc} (h : s.Inv) (key : ByteArray) : (s.remove key).2.Inv := by
 unfold Arc.remove
 split
 ·obtain ⟨hn, c1, c2, pc, res, rc, all⟩ := h
  have e0 := drop_len_le s.K key 0
  have e1 := drop_len_le s.K key 1
  have e2 := drop_len_le s.K key 2
  have e3 := tot_drop 4 s.K key
  exact ⟨hn.drop _, c1, c2, pc, by simp only; omega, by simp only; omega, by simp only; omega⟩
 ·exact h
theorem Arc.Inv.evict {s : Arc} (h : s.Inv) : s.evict.2.2.Inv := by
 unfold Arc.evict
 split
 ·exact h
 ·rename_i hl
  obtain ⟨hn, c1, c2, pc, res, rc, all⟩ := h
  rw [tot4] at all
  simp only [Arc.len] at hl
  have hb : 0 < (s.K (if arcRec s.K s.p false then 0 else 1)).length := by
   cases e : arcRec s.K s.p false with
   | true => simpa using arcRec_t e
   | false => simpa using arcRec_f e (by omega)
  obtain ⟨h1, h2, h3, h4, h5, _⟩ := arcOusts_len hn hb
  exact ⟨h1, c1, c2, pc, by simp only; omega, by simp only; omega, by rw [tot4]; simp only; omega⟩
end Go.Proofs.YtfeicmpbfbhiiaaGreat
set_option linter.unusedVariables false
set_option linter.unusedSimpArgs false
namespace Go.Proofs.YtfeicmpbfbhiiaaGreat
open Go.RowKit
structure Twoq where
 K : Rows
 c : Nat
def Twoq.kin (s : Twoq) : Nat := max 1 (s.c / 4)
def Twoq.kout (s : Twoq) : Nat := max 1 (s.c / 2)
def Twoq.len (s : Twoq) : Nat := (s.K 0).length + (s.K 2).length
def Twoq.has (s : Twoq) (key : ByteArray) : Bool := decide (key ∈ s.K 0 ∨ key ∈ s.K 2)
def Twoq.evict (s : Twoq) : ByteArray × Bool × Twoq :=
 if s.len = 0 then (⟨#[]⟩, false, s)
 else if (s.K 0).length ≤ s.kin ∧ 0 < (s.K 2).length then (oldest s.K 2, true, { s with K := dropK s.K (oldest s.K 2) })
 else (oldest s.K 0, true, { s with K := trim (pushK s.K 1 (oldest s.K 0)) 1 s.kout })
def Twoq.reclaim (s : Twoq) : List ByteArray × Twoq := if s.len < s.c then ([], s) else ([s.evict.1], s.evict.2.2)
def Twoq.access (s : Twoq) (key : ByteArray) : Bool × List ByteArray × Twoq :=
 if key ∈ s.K 2 then (true, [], { s with K := pushK s.K 2 key })
 else if key ∈ s.K 0 then (true, [], s)
 else if key ∈ s.K 1 then
  let r := ({ s with K := dropK s.K key } : Twoq).reclaim
  (false, r.1, { s with K := pushK r.2.K 2 key })
 else (false, s.reclaim.1, { s with K := pushK s.reclaim.2.K 0 key })
def Twoq.load (s : Twoq) (key : ByteArray) : Bool × Twoq := if s.has key = true ∨ s.len = s.c then (false, s) else (true, { s with K := pushK s.K 2 key })
def Twoq.remove (s : Twoq) (key : ByteArray) : Bool × Twoq := if s.has key then (true, { s with K := dropK s.K key }) else (false, s)
structure Twoq.Inv (s : Twoq) : Prop where
 nd : RNd 3 s.K
 c1 : 1 ≤ s.c
 c2 : s.c ≤ 1024
 res : (s.K 0).length + (s.K 2).length ≤ s.c
 out : (s.K 1).length ≤ s.kout
theorem Twoq.Inv.evict {s : Twoq} (h : s.Inv) : s.evict.2.2.Inv ∧ s.evict.2.2.c = s.c ∧ s.evict.2.2.len + (if s.len = 0 then 0 else 1) = s.len ∧ (∀ x i, x ∈ s.evict.2.2.K i → ∃ j, x ∈ s.K j) := by
 unfold Twoq.evict
 split
 ·exact ⟨h, rfl, by simp, fun x i hx => ⟨i, hx⟩⟩
 ·rename_i hl
  obtain ⟨hn, c1, c2, res, out⟩ := id h
  simp only [Twoq.len] at hl
  split
  ·rename_i h2
   have hd := drop_len_in hn (oldest_mem h2.2)
   have d0 := hd 0
   have d1 := hd 1
   have d2 := hd 2
   simp at d0 d1 d2
   exact ⟨⟨hn.drop _, c1, c2, by simp only; omega, by simp only [Twoq.kout] at out ⊢; omega⟩, rfl, by simp only [Twoq.len]; omega, fun x i hx => ⟨i, (mem_dropK.1 hx).1⟩⟩
  ·rename_i h2
   have hk : 1 ≤ s.kin := Nat.le_max_left _ _
   have h0 : 0 < (s.K 0).length := by omega
   have hd := push_move hn (oldest_mem h0) 1
   have d0 := hd 0
   have d1 := hd 1
   have d2 := hd 2
   simp at d0 d1 d2
   have hn2 := hn.push (r := 1) (by omega) (oldest s.K 0) (oldest_sz hn 0)
   have t0 := trim_other (pushK s.K 1 (oldest s.K 0)) (r := 1) (i := 0) s.kout (by omega)
   have t1 := trim_len (pushK s.K 1 (oldest s.K 0)) 1 s.kout
   have t2 := trim_other (pushK s.K 1 (oldest s.K 0)) (r := 1) (i := 2) s.kout (by omega)
   refine ⟨⟨hn2.trim _ _, c1, c2, ?_, ?_⟩, rfl, ?_, ?_⟩
   ·simp only; rw [t0, t2]; omega
   ·simp only [Twoq.kout] at t1 ⊢; rw [t1]; exact Nat.min_le_right _ _
   ·simp only [Twoq.len]; rw [t0, t2]; omega
   ·intro x i hx
    have hx2 : x ∈ pushK s.K 1 (oldest s.K 0) i := by
     simp only at hx
     unfold trim at hx
     by_cases e : i = 1
     ·subst e; rw [up_same] at hx; exact List.mem_of_mem_drop hx
     ·rw [up_other _ _ _ _ e] at hx; exact hx
    rcases mem_pushK.1 hx2 with ⟨a, _⟩ | ⟨_, rfl⟩
    ·exact ⟨i, a⟩
    ·exact ⟨0, oldest_mem h0⟩
theorem Twoq.Inv.reclaim {s : Twoq} (h : s.Inv) : s.reclaim.2.Inv ∧ s.reclaim.2.c = s.c ∧ s.reclaim.2.len < s.c ∧ (∀ x i, x ∈ s.reclaim.2.K i → ∃ j, x ∈ s.K j) := by
 unfold Twoq.reclaim
 split
 ·rename_i hl
  exact ⟨h, rfl, hl, fun x i hx => ⟨i, hx⟩⟩
 ·rename_i hl
  obtain ⟨a1, a2, a3, a4⟩ := h.evict
  have hc := h.c1
  have hr := h.res
  simp only [Twoq.len] at hl
  refine ⟨a1, a2, ?_, a4⟩
  rw [if_neg (by simp only [Twoq.len]; omega)] at a3
  simp only [Twoq.len] at a3 ⊢
  omega
theorem Twoq.Inv.access {s : Twoq} (h : s.Inv) {key : ByteArray} (hz : key.size ≤ maxLen) : (s.access key).2.2.Inv := by
 obtain ⟨hn, c1, c2, res, out⟩ := id h
 unfold Twoq.access
 split
 ·rename_i hm
  have hd := push_move hn hm 2
  have d0 := hd 0
  have d1 := hd 1
  have d2 := hd 2
  simp at d0 d1 d2
  exact ⟨hn.push (by omega) key hz, c1, c2, by simp only; omega, by simp only [Twoq.kout] at out ⊢; omega⟩
 ·split
  ·exact h
  ·split
   ·rename_i h2 h0 h1
    have hd := drop_len_in hn h1
    have d0 := hd 0
    have d1 := hd 1
    have d2 := hd 2
    simp at d0 d1 d2
    have hi : ({ s with K := dropK s.K key } : Twoq).Inv := ⟨hn.drop _, c1, c2, by simp only; omega, by simp only [Twoq.kout] at out ⊢; omega⟩
    obtain ⟨a1, a2, a3, a4⟩ := hi.reclaim
    have hk : ∀ i, key ∉ ({ s with K := dropK s.K key } : Twoq).reclaim.2.K i := fun i hx => by
     obtain ⟨j, hj⟩ := a4 key i hx
     exact not_mem_dropK j hj
    have hd := push_new hk 2
    have d0 := hd 0
    have d1 := hd 1
    have d2 := hd 2
    simp at d0 d1 d2
    have o := a1.out
    rw [Twoq.kout, a2] at o
    simp only [Twoq.len] at a3
    exact ⟨a1.nd.push (by omega) key hz, c1, c2, by simp only; omega, by simp only [Twoq.kout] at o ⊢; omega⟩
   ·rename_i h2 h0 h1
    have hk0 : ∀ i, key ∉ s.K i := not_rows hn fun i hi => by
     have : i = 0 ∨ i = 1 ∨ i = 2 := by omega
     rcases this with rfl | rfl | rfl
     ·exact h0
     ·exact h1
     ·exact h2
    obtain ⟨a1, a2, a3, a4⟩ := h.reclaim
    have hk : ∀ i, key ∉ s.reclaim.2.K i := fun i hx => by
     obtain ⟨j, hj⟩ := a4 key i hx
     exact hk0 j hj
    have hd := push_new hk 0
    have d0 := hd 0
    have d1 := hd 1
    have d2 := hd 2
    simp at d0 d1 d2
    have o := a1.out
    rw [Twoq.kout, a2] at o
    simp only [Twoq.len] at a3
    exact ⟨a1.nd.push (by omega) key hz, c1, c2, by simp only; omega, by simp only [Twoq.kout] at o ⊢; omega⟩
theorem Twoq.Inv.load {s : Twoq} (h : s.Inv) {key : ByteArray} (hz : key.size ≤ maxLen) : (s.load key).2.Inv := by
 unfold Twoq.load
 split
 ·exact h
 ·rename_i hx
  simp only [not_or, Twoq.len, Twoq.has] at hx
  obtain ⟨hx1, hx2⟩ := hx
  obtain ⟨hn, c1, c2, res, out⟩ := id h
  have p0 := push_len s.K 2 0 key
  have p1 := push_len s.K 2 1 key
  have p2 := push_len s.K 2 2 key
  have e0 := drop_len_le s.K key 0
  have e1 := drop_len_le s.K key 1
  have e2 := drop_len_le s.K key 2
  simp at p0 p1 p2
  exact ⟨hn.push (by omega) key hz, c1, c2, by simp only; omega, by simp only [Twoq.kout] at out ⊢; omega⟩
theorem Twoq.Inv.remove {s : Twoq} (h : s.Inv) (key : ByteArray) : (s.remove key).2.Inv := by
 unfold Twoq.remove
 split
 ·obtain ⟨hn, c1, c2, res, out⟩ := h
  have e0 := drop_len_le s.K key 0
  have e1 := drop_len_le s.K key 1
  have e2 := drop_len_le s.K key 2
  exact ⟨hn.drop _, c1, c2, by simp only; omega, by simp only [Twoq.kout] at out ⊢; omega⟩
 ·exact h
end Go.Proofs.YtfeicmpbfbhiiaaGreat
set_option linter.unusedVariables false
set_option linter.unusedSimpArgs false
namespace Go.Proofs.YtfeicmpbfbhiiaaGreat
open Go.RowKit
abbrev Cnt := ByteArray → Option Nat
structure S3 where
 K : Rows
 C : Cnt
 c : Nat
def S3.small (s : S3) : Nat := max 1 (s.c / 10)
def S3.ghosts (s : S3) : Nat := max 1 (s.c - s.small)
def S3.len (s : S3) : Nat := (s.K 0).length + (s.K 1).length
def S3.has (s : S3) (key : ByteArray) : Bool := decide (key ∈ s.K 0 ∨ key ∈ s.K 1)
def cntOf (C : Cnt) (key : ByteArray) : Nat := (C key).getD 0
/-- One of S goes; none: all of them are M's now. -/
def s3Small (g : Nat) : Nat → Rows → Cnt → Option ByteArray × Rows × Cnt
 | 0, K, C => (none, K, C)
 | f + 1, K, C =>
  if (K 0).length = 0 then (none, K, C)
  else if 1 < cntOf C (oldest K 0) then s3Small g f (pushK K 1 (oldest K 0)) (upM C (oldest K 0) (some 0))
  else (some (oldest K 0), trim (pushK K 2 (oldest K 0)) 2 g, upM C (oldest K 0) none)
/-- One of M goes. -/
def s3Main : Nat → Rows → Cnt → ByteArray × Rows × Cnt
 | 0, K, C => (⟨#[]⟩, K, C)
 | f + 1, K, C =>
  if cntOf C (oldest K 1) = 0 then (oldest K 1, dropK K (oldest K 1), upM C (oldest K 1) none)
  else s3Main f (pushK K 1 (oldest K 1)) (upM C (oldest K 1) (some (cntOf C (oldest K 1) - 1)))
def wt (C : Cnt) (l : List ByteArray) : Nat := (l.map (cntOf C)).sum
def S3.fromMain (s : S3) : ByteArray × S3 :=
 let r := s3Main (wt s.C (s.K 1) + 1) s.K s.C
 (r.1, { s with K := r.2.1, C := r.2.2 })
def S3.evict (s : S3) : ByteArray × Bool × S3 :=
 if s.len = 0 then (⟨#[]⟩, false, s)
 else if s.small < (s.K 0).length ∨ (s.K 1).length = 0 then
  let r := s3Small s.ghosts ((s.K 0).length + 1) s.K s.C
  match r.1 with
  | some k => (k, true, { s with K := r.2.1, C := r.2.2 })
  | none => (({ s with K := r.2.1, C := r.2.2 } : S3).fromMain.1, true, ({ s with K := r.2.1, C := r.2.2 } : S3).fromMain.2)
 else (s.fromMain.1, true, s.fromMain.2)
def S3.room (s : S3) : List ByteArray × S3 := if s.len < s.c then ([], s) else ([s.evict.1], s.evict.2.2)
def S3.access (s : S3) (key : ByteArray) : Bool × List ByteArray × S3 :=
 if s.has key then (true, [], { s with C := upM s.C key (some (min 3 (cntOf s.C key + 1))) })
 else
  let r := s.room
  (false, r.1, { s with K := pushK r.2.K (if key ∈ r.2.K 2 then 1 else 0) key, C := upM r.2.C key (some 0) })
def S3.load (s : S3) (key : ByteArray) : Bool × S3 := if s.has key = true ∨ s.len = s.c then (false, s) else (true, { s with K := pushK s.K 1 key, C := upM s.C key (some 0) })
def S3.remove (s : S3) (key : ByteArray) : Bool × S3 := if s.has key then (true, { s with K := dropK s.K key, C := upM s.C key none }) else (false, s)
structure CInv (K : Rows) (C : Cnt) : Prop where
 nd : RNd 3 K
 is : ∀ key, (C key).isSome = true ↔ key ∈ K 0 ∨ key ∈ K 1
 le : ∀ key n, C key = some n → n ≤ 3
structure S3.Inv (s : S3) : Prop where
 ci : CInv s.K s.C
 c1 : 1 ≤ s.c
 c2 : s.c ≤ 1024
 res : (s.K 0).length + (s.K 1).length ≤ s.c
 gh : (s.K 2).length ≤ s.ghosts
theorem cnt_le3 {K : Rows} {C : Cnt} (h : CInv K C) (key : ByteArray) : cntOf C key ≤ 3 := by
 unfold cntOf
 cases e : C key with
 | none => simp
 | some n => simpa using h.le key n e
/-- A resident key is M's newest, with a count. -/
theorem CInv.toMain {K : Rows} {C : Cnt} (h : CInv K C) {key : ByteArray} (hz : key.size ≤ maxLen) {n : Nat} (hn : n ≤ 3) : CInv (pushK K 1 key) (upM C key (some n)) := by
 refine ⟨h.nd.push (by omega) key hz, fun k => ?_, fun k m hm => ?_⟩
 ·rw [mem_pushK, mem_pushK]
  unfold upM
  by_cases e : k = key
  ·simp [e]
  ·simp [e]; exact h.is k
 ·unfold upM at hm
  split at hm
  ·cases hm; exact hn
  ·exact h.le k m hm
theorem CInv.toSmall {K : Rows} {C : Cnt} (h : CInv K C) {key : ByteArray} (hz : key.size ≤ maxLen) {n : Nat} (hn : n ≤ 3) : CInv (pushK K 0 key) (upM C key (some n)) := by
 refine ⟨h.nd.push (by omega) key hz, fun k => ?_, fun k m hm => ?_⟩
 ·rw [mem_pushK, mem_pushK]
  unfold upM
  by_cases e : k = key
  ·simp [e]
  ·simp [e]; exact h.is k
 ·unfold upM at hm
  split at hm
  ·cases hm; exact hn
  ·exact h.le k m hm
theorem CInv.gone {K : Rows} {C : Cnt} (h : CInv K C) (key : ByteArray) : CInv (dropK K key) (upM C key none) := by
 refine ⟨h.nd.drop key, fun k => ?_, fun k m hm => ?_⟩
 ·rw [mem_dropK, mem_dropK]
  unfold upM
  by_cases e : k = key
  ·simp [e]
  ·simp [e]; exact h.is k
 ·unfold upM at hm
  split at hm
  ·cases hm
  ·exact h.le k m hm
theorem trim_mem {K : Rows} {r n i : Nat} {x : ByteArray} (h : x ∈ trim K r n i) : x ∈ K i := by
 unfold trim at h
 by_cases e : i = r
 ·subst e; rw [up_same] at h; exact List.mem_of_mem_drop h
 ·rw [up_other _ _ _ _ e] at h; exact h
theorem CInv.ghost {K : Rows} {C : Cnt} (h : CInv K C) {key : ByteArray} (hz : key.size ≤ maxLen) (g : Nat) : CInv (trim (pushK K 2 key) 2 g) (upM C key none) := by
 refine ⟨(h.nd.push (by omega) key hz).trim _ _, fun k => ?_, fun k m hm => ?_⟩
 ·rw [trim_other _ _ (by omega), trim_other _ _ (by omega), mem_pushK, mem_pushK]
  unfold upM
  by_cases e : k = key
  ·simp [e]
  ·simp [e]; exact h.is k
 ·unfold upM at hm
  split at hm
  ·cases hm
  ·exact h.le k m hm
theorem s3Small_inv (g : Nat) : ∀ (f : Nat) (K : Rows) (C : Cnt), CInv K C → (K 0).length < f → (K 2).length ≤ g →
  CInv (s3Small g f K C).2.1 (s3Small g f K C).2.2 ∧ ((s3Small g f K C).2.1 2).length ≤ g ∧
  ((s3Small g f K C).1 = none → ((s3Small g f K C).2.1 0).length = 0 ∧ ((s3Small g f K C).2.1 1).length = (K 0).length + (K 1).length) ∧
  (∀ k, (s3Small g f K C).1 = some k → ((s3Small g f K C).2.1 0).length + ((s3Small g f K C).2.1 1).length + 1 = (K 0).length + (K 1).length) ∧
  (∀ x i, x ∈ (s3Small g f K C).2.1 i → ∃ j, x ∈ K j)
 | 0, K, C, hc, hf, hg => by omega
 | f + 1, K, C, hc, hf, hg => by
  unfold s3Small
  split
  ·rename_i h0
   exact ⟨hc, hg, fun _ => ⟨h0, by simp only; omega⟩, fun k hk => (by cases hk), fun x i hx => ⟨i, hx⟩⟩
  ·rename_i h0
   have hm := oldest_mem (K := K) (r := 0) (by omega)
   have hsz := oldest_sz hc.nd 0
   split
   ·have hd := push_move hc.nd hm 1
    have d0 := hd 0
    have d1 := hd 1
    have d2 := hd 2
    simp at d0 d1 d2
    obtain ⟨a1, a2, a3, a4, a5⟩ := s3Small_inv g f (pushK K 1 (oldest K 0)) (upM C (oldest K 0) (some 0)) (hc.toMain hsz (by omega)) (by omega) (by omega)
    refine ⟨a1, a2, fun h => ?_, fun k h => ?_, fun x i hx => ?_⟩
    ·obtain ⟨b1, b2⟩ := a3 h; exact ⟨b1, by omega⟩
    ·have := a4 k h; omega
    ·obtain ⟨j, hj⟩ := a5 x i hx
     rcases mem_pushK.1 hj with ⟨h, _⟩ | ⟨_, rfl⟩
     ·exact ⟨j, h⟩
     ·exact ⟨0, hm⟩
   ·have hd := push_move hc.nd hm 2
    have d0 := hd 0
    have d1 := hd 1
    simp at d0 d1
    refine ⟨hc.ghost hsz g, by rw [trim_len]; exact Nat.min_le_right _ _, fun h => (by cases h), fun k _ => ?_, fun x i hx => ?_⟩
    ·simp only; rw [trim_other _ _ (by omega), trim_other _ _ (by omega)]; omega
    ·rcases mem_pushK.1 (trim_mem hx) with ⟨h, _⟩ | ⟨_, rfl⟩
     ·exact ⟨i, h⟩
     ·exact ⟨0, hm⟩
theorem wt_filter (C : Cnt) (key : ByteArray) (v : Option Nat) : ∀ l : List ByteArray, (wt (upM C key v) (l.filter fun x => decide (x ≠ key))) = wt C (l.filter fun x => decide (x ≠ key))
 | [] => rfl
 | a :: l => by
  by_cases e : a = key
  ·subst e
   rw [List.filter_cons_of_neg (by simp)]
   exact wt_filter C a v l
  ·rw [List.filter_cons_of_pos (by simpa using e)]
   simp only [wt, List.map_cons, List.sum_cons] at *
   have := wt_filter C key v l
   simp only [wt] at this
   rw [this]
   simp [cntOf, upM, e]
theorem wt_in (C : Cnt) {key : ByteArray} : ∀ {l : List ByteArray}, l.Nodup → key ∈ l → wt C (l.filter fun x => decide (x ≠ key)) + cntOf C key = wt C l
 | a :: l, hn, h => by
  have hn2 := List.nodup_cons.1 hn
  by_cases e : a = key
  ·subst e
   rw [List.filter_cons_of_neg (by simp), List.filter_eq_self.2 (fun x hx => by simp; rintro rfl; exact hn2.1 hx)]
   simp [wt]; omega
  ·rw [List.filter_cons_of_pos (by simpa using e)]
   have := wt_in C (key := key) hn2.2 (by simpa [Ne.symm e] using h)
   simp only [wt, List.map_cons, List.sum_cons] at *
   omega
/-- A round of fromMain takes one off the sum. -/
theorem wt_round {K : Rows} {C : Cnt} (h : CInv K C) (h1 : 0 < (K 1).length) (hc : cntOf C (oldest K 1) ≠ 0) : wt (upM C (oldest K 1) (some (cntOf C (oldest K 1) - 1))) (pushK K 1 (oldest K 1) 1) + 1 = wt C (K 1) := by
 have h2 := wt_in C (h.nd.nd 1) (oldest_mem h1)
 have h3 := wt_filter C (oldest K 1) (some (cntOf C (oldest K 1) - 1)) (K 1)
 rw [push_same]
 have e : ∀ (C : Cnt) (a b : List ByteArray), wt C (a ++ b) = wt C a + wt C b := fun C a b => by simp [wt]
 rw [e]
 have e2 : wt (upM C (oldest K 1) (some (cntOf C (oldest K 1) - 1))) [oldest K 1] = cntOf C (oldest K 1) - 1 := by simp [wt, cntOf, upM]
 rw [e2]
 simp only [dropK]
 omega
theorem s3Main_inv : ∀ (f : Nat) (K : Rows) (C : Cnt), CInv K C → wt C (K 1) < f → 0 < (K 1).length →
  CInv (s3Main f K C).2.1 (s3Main f K C).2.2 ∧ ((s3Main f K C).2.1 2).length = (K 2).length ∧ ((s3Main f K C).2.1 0).length = (K 0).length ∧ ((s3Main f K C).2.1 1).length + 1 = (K 1).length ∧
  (s3Main f K C).1 ∈ K 1 ∧ (∀ x i, x ∈ (s3Main f K C).2.1 i → ∃ j, x ∈ K j)
 | 0, K, C, hc, hf, hg => by omega
 | f + 1, K, C, hc, hf, h1 => by
  unfold s3Main
  have hm := oldest_mem (K := K) (r := 1) h1
  have hsz := oldest_sz hc.nd 1
  split
  ·have hd := drop_len_in hc.nd hm
   have d0 := hd 0
   have d1 := hd 1
   have d2 := hd 2
   simp at d0 d1 d2
   exact ⟨hc.gone _, d2, d0, d1, hm, fun x i hx => ⟨i, (mem_dropK.1 hx).1⟩⟩
  ·rename_i h0
   have hw := wt_round hc h1 h0
   have h3 := cnt_le3 hc (oldest K 1)
   have hd := push_move hc.nd hm 1
   have d0 := hd 0
   have d1 := hd 1
   have d2 := hd 2
   simp at d0 d1 d2
   obtain ⟨a1, a2, a3, a4, a5, a6⟩ := s3Main_inv f (pushK K 1 (oldest K 1)) (upM C (oldest K 1) (some (cntOf C (oldest K 1) - 1))) (hc.toMain hsz (by omega)) (by omega) (by omega)
   have hb : ∀ x i, x ∈ pushK K 1 (oldest K 1) i → x ∈ K i := fun x i hx => by
    rcases mem_pushK.1 hx with ⟨h, _⟩ | ⟨rfl, rfl⟩
    ·exact h
    ·exact hm
   exact ⟨a1, by omega, by omega, by omega, hb _ _ a5, fun x i hx => by obtain ⟨j, hj⟩ := a6 x i hx; exact ⟨j, hb _ _ hj⟩⟩
theorem S3.Inv.fromMain {s : S3} (h : s.Inv) (h1 : 0 < (s.K 1).length) : s.fromMain.2.Inv ∧ s.fromMain.2.c = s.c ∧ s.fromMain.2.len + 1 = s.len ∧ (∀ x i, x ∈ s.fromMain.2.K i → ∃ j, x ∈ s.K j) := by
 obtain ⟨a1, a2, a3, a4, a5, a6⟩ := s3Main_inv (wt s.C (s.K 1) + 1) s.K s.C h.ci (by omega) h1
 have hr := h.res
 have hg := h.gh
 unfold S3.fromMain
 exact ⟨⟨a1, h.c1, h.c2, by simp only; omega, by simp only [S3.ghosts, S3.small] at hg ⊢; omega⟩, rfl, by simp only [S3.len]; omega, a6⟩
theorem S3.Inv.evict {s : S3} (h : s.Inv) : s.evict.2.2.Inv ∧ s.evict.2.2.c = s.c ∧ s.evict.2.2.len + (if s.len = 0 then 0 else 1) = s.len ∧ (∀ x i, x ∈ s.evict.2.2.K i → ∃ j, x ∈ s.K j) := by
 unfold S3.evict
 split
 ·exact ⟨h, rfl, by simp, fun x i hx => ⟨i, hx⟩⟩
 ·rename_i hl
  have hr := h.res
  have hg := h.gh
  simp only [S3.len] at hl
  split
  ·obtain ⟨a1, a2, a3, a4, a5⟩ := s3Small_inv s.ghosts ((s.K 0).length + 1) s.K s.C h.ci (by omega) h.gh
   generalize s3Small s.ghosts ((s.K 0).length + 1) s.K s.C = r at *
   obtain ⟨o, K', C'⟩ := r
   simp only at a1 a2 a3 a4 a5
   cases o with
   | some k =>
    have := a4 k rfl
    exact ⟨⟨a1, h.c1, h.c2, by simp only; omega, by simp only [S3.ghosts, S3.small] at a2 ⊢; omega⟩, rfl, by simp only [S3.len]; omega, a5⟩
   | none =>
    obtain ⟨b1, b2⟩ := a3 rfl
    have hi : ({ s with K := K', C := C' } : S3).Inv := ⟨a1, h.c1, h.c2, by simp only; omega, by simp only [S3.ghosts, S3.small] at a2 ⊢; omega⟩
    obtain ⟨c1, c2, c3, c4⟩ := hi.fromMain (by simp only; omega)
    refine ⟨c1, c2, ?_, fun x i hx => ?_⟩
    ·simp only [S3.len] at c3 ⊢; omega
    ·obtain ⟨j, hj⟩ := c4 x i hx; exact a5 x j hj
  ·rename_i h2
   obtain ⟨c1, c2, c3, c4⟩ := h.fromMain (by omega)
   exact ⟨c1, c2, c3, c4⟩
theorem S3.Inv.room {s : S3} (h : s.Inv) : s.room.2.Inv ∧ s.room.2.c = s.c ∧ s.room.2.len < s.c ∧ (∀ x i, x ∈ s.room.2.K i → ∃ j, x ∈ s.K j) := by
 unfold S3.room
 split
 ·rename_i hl
  exact ⟨h, rfl, hl, fun x i hx => ⟨i, hx⟩⟩
 ·rename_i hl
  obtain ⟨a1, a2, a3, a4⟩ := h.evict
  have hc := h.c1
  have hr := h.res
  simp only [S3.len] at hl
  refine ⟨a1, a2, ?_, a4⟩
  rw [if_neg (by simp only [S3.len]; omega)] at a3
  simp only [S3.len] at a3 ⊢
  omega
end Go.Proofs.YtfeicmpbfbhiiaaGreat
set_option linter.unusedVariables false
set_option linter.unusedSimpArgs false
namespace Go.Proofs.YtfeicmpbfbhiiaaGreat
open Go.RowKit
attribute [local go_sem ↓] Go.wp_at_zero Go.wp_at_succ
def mixI1 (x : Int) : Int := IntKind.u64.wrap (bits BinOp.xor IntKind.u64 x (x / 1073741824) * 13787848793156543929)
def mixI2 (x : Int) : Int := IntKind.u64.wrap (bits BinOp.xor IntKind.u64 x (x / 134217728) * 10723151780598845931)
def mixI (x : Int) : Int := bits BinOp.xor IntKind.u64 (mixI2 (mixI1 x)) (mixI2 (mixI1 x) / 2147483648)
theorem bits64 (op : BinOp) (x y : Int) : 0 ≤ bits op .u64 x y ∧ bits op .u64 x y < 18446744073709551616 := by
 have h := wf_bits op .u64 x y
 have e1 : IntKind.u64.min = 0 := by decide
 have e2 : IntKind.u64.max = 18446744073709551615 := by decide
 simp [Lit.wf, e1, e2] at h
 omega
theorem mixI_bd (x : Int) : 0 ≤ mixI x ∧ mixI x < 18446744073709551616 := bits64 _ _ _
theorem wrap64b (x : Int) : 0 ≤ IntKind.u64.wrap x ∧ IntKind.u64.wrap x < 18446744073709551616 := by
 have h : IntKind.u64.wrap x = x % 18446744073709551616 := by simp [IntKind.wrap, IntKind.bits, IntKind.signed]
 omega
def hashF (h : Int) (b : UInt8) : Int := mixI (IntKind.u64.wrap (bits BinOp.xor IntKind.u64 h (IntKind.u64.wrap b.toNat) + 11400714819323198485))
def hashN (seed : Int) (s : ByteArray) (k : Nat) : Int := (s.data.toList.take k).foldl hashF (mixI (bits BinOp.xor IntKind.u64 seed s.size))
def hashI (seed : Int) (s : ByteArray) : Int := hashN seed s s.size
theorem hashN_bd (seed : Int) (s : ByteArray) (k : Nat) : 0 ≤ hashN seed s k ∧ hashN seed s k < 18446744073709551616 := by
 unfold hashN
 generalize s.data.toList.take k = l
 have h := mixI_bd (bits BinOp.xor IntKind.u64 seed s.size)
 generalize mixI (bits BinOp.xor IntKind.u64 seed s.size) = a at h
 induction l generalizing a with
 | nil => exact h
 | cons b l ih => exact ih _ (mixI_bd _)
theorem hashI_bd (seed : Int) (s : ByteArray) : 0 ≤ hashI seed s ∧ hashI seed s < 18446744073709551616 := hashN_bd _ _ _
theorem hashN_succ (seed : Int) (s : ByteArray) (k : Nat) (h : k < s.size) : hashN seed s (k + 1) = hashF (hashN seed s k) s[k] := by
 unfold hashN
 rw [List.take_add_one, List.foldl_append]
 have : s.data.toList[k]? = some s[k] := by
  rw [List.getElem?_eq_getElem (by simpa using h)]; rfl
 simp [this]
def placeN (h : Int) (n : Nat) : Nat := (h % n).toNat
theorem placeN_lt (h : Int) (n : Nat) (hn : 1 ≤ n) : placeN h n < n := by
 have h3 : h % (n : Int) < n := Int.emod_lt_of_pos _ (by omega)
 have := Int.emod_nonneg h (show (n : Int) ≠ 0 by omega)
 unfold placeN; omega
theorem mix_mix (x : Int) (h0 : 0 ≤ x) (h1 : x < 18446744073709551616) (w : World) : Calls Tryz.prog 192 #[.int .u64 x] w fun e w' => e = .returned (.int .u64 (mixI x)) ∧ w = w' := by
 go_enter Tryz.func192, Tryz.ntmps192
 go_wp2
 go_ret
 exact ⟨rfl, rfl⟩
theorem mix_hash (seed : Int) (h0 : 0 ≤ seed) (h1 : seed < 18446744073709551616) (s : ByteArray) (hs : s.size ≤ maxLen) (w : World) :
  Calls Tryz.prog 136 #[.int .u64 seed, .string s] w fun e w' => e = .returned (.int .u64 (hashI seed s)) ∧ w = w' := by
 have hmx : maxLen = 9223372036854775807 := rfl
 go_enter Tryz.func136, Tryz.ntmps136
 go_wp2_with fail
 refine (mix_mix _ (bits64 _ _ _).1 (bits64 _ _ _).2 _).mono ?_
 rintro e w1 ⟨rfl, rfl⟩
 go_wp2_with fail
 go_loop [5, 15] (fun h i => ∃ k : Nat, k ≤ s.size ∧ i = .int .i64 k ∧ h = .int .u64 (hashN seed s k)) (fun _ i => s.size - (intOf i).toNat)
 case atStart => exact ⟨0, by omega, rfl, rfl⟩
 case round =>
  obtain ⟨k, hk, rfl, rfl⟩ := hrel
  have hb := hashN_bd seed s k
  by_cases hlt : k < s.size
  ·obtain ⟨g, hg⟩ : ∃ g, hashN seed s k = g := ⟨_, rfl⟩
   rw [hg] at hb ⊢
   go_wp2_with fail
   refine (mix_mix _ (wrap64b _).1 (wrap64b _).2 _).mono ?_
   rintro e w1 ⟨rfl, rfl⟩
   go_wp2_with fail
   exact ⟨⟨k + 1, by omega, by go_num, by rw [hashN_succ _ _ _ hlt, hg]; rfl⟩, by simp [intOf]; omega⟩
  ·go_wp2
   go_ret
   have : k = s.size := by omega
   subst this
   exact ⟨rfl, rfl⟩
theorem mix_place (h : Int) (h0 : 0 ≤ h) (h1 : h < 18446744073709551616) (n : Nat) (hn : 1 ≤ n) (hn2 : n ≤ 9223372036854775807) (w : World) :
  Calls Tryz.prog 248 #[.int .u64 h, .int .i64 n] w fun e w' => e = .returned (.int .i64 (placeN h n)) ∧ w = w' := by
 go_enter Tryz.func248, Tryz.ntmps248
 go_wp2
 go_ret
 refine ⟨?_, rfl⟩
 have h2 : h % (n : Int) = ((placeN h n : Nat) : Int) := by
  unfold placeN; rw [Int.toNat_of_nonneg (Int.emod_nonneg _ (by omega))]
 have h3 : h % (n : Int) < n := Int.emod_lt_of_pos _ (by omega)
 have h4 : RowKit.wrap64 (h % (n : Int)) = h % (n : Int) := by
  have := Int.emod_nonneg h (show (n : Int) ≠ 0 by omega)
  unfold RowKit.wrap64; omega
 rw [h4, h2]
 rfl
end Go.Proofs.YtfeicmpbfbhiiaaGreat
set_option linter.unusedVariables false
set_option linter.unusedSimpArgs false
namespace Go.Proofs.YtfeicmpbfbhiiaaGreat
open Go.RowKit
structure Sk where
 n : Nat
 cell : Nat → Nat
 sum : Nat
/-- A key's cell in row i. -/
def Sk.at (s : Sk) (key : ByteArray) (i : Nat) : Nat := i * s.n + placeN (hashI (i + 1) key) s.n
def Sk.count (s : Sk) (key : ByteArray) : Nat := min (s.cell (s.at key 0)) (min (s.cell (s.at key 1)) (min (s.cell (s.at key 2)) (s.cell (s.at key 3))))
def Sk.isAt (s : Sk) (key : ByteArray) (j : Nat) : Bool := decide (j = s.at key 0 ∨ j = s.at key 1 ∨ j = s.at key 2 ∨ j = s.at key 3)
def Sk.halve (s : Sk) : Sk := { s with cell := fun j => s.cell j / 2, sum := s.sum / 2 }
def Sk.up (s : Sk) (key : ByteArray) : Sk := { s with cell := fun j => if s.isAt key j = true ∧ s.cell j = s.count key then s.count key + 1 else s.cell j, sum := s.sum + 1 }
def Sk.add (s : Sk) (key : ByteArray) : Sk :=
 if s.count key = 15 then s
 else if s.sum + 1 = 10 * s.n then (s.up key).halve
 else s.up key
/-- The least power of two (from a on) that is not below r; f: how often it is doubled at most. -/
def pow2From (r : Nat) : Nat → Nat → Nat
 | 0, a => a
 | f + 1, a => if a < r then pow2From r f (a * 2) else a
def Sk.new (room : Nat) : Sk := ⟨pow2From room 11 8, fun _ => 0, 0⟩
structure Sk.Inv (s : Sk) : Prop where
 n8 : 8 ≤ s.n
 n2 : s.n ≤ 2048
 ev : 2 ∣ s.n
 le : ∀ j, s.cell j ≤ 15
 sum : s.sum < 10 * s.n
structure Dr where
 n : Nat
 bit : Nat → Bool
def Dr.at (d : Dr) (key : ByteArray) (i : Nat) : Nat := placeN (hashI (11 + i) key) d.n
def Dr.has (d : Dr) (key : ByteArray) : Bool := d.bit (d.at key 0) && d.bit (d.at key 1) && d.bit (d.at key 2)
def Dr.add (d : Dr) (key : ByteArray) : Dr := { d with bit := fun j => d.bit j || decide (j = d.at key 0 ∨ j = d.at key 1 ∨ j = d.at key 2) }
def Dr.clear (d : Dr) : Dr := { d with bit := fun _ => false }
def Dr.new (room : Nat) : Dr := ⟨max 64 (8 * pow2From room 11 1), fun _ => false⟩
structure Dr.Inv (d : Dr) : Prop where
 n64 : 64 ≤ d.n
 n2 : d.n ≤ 16384
 ev : 64 ∣ d.n
structure Tiny where
 K : Rows
 k : Sk
 d : Dr
 c : Nat
def Tiny.window (s : Tiny) : Nat := max 1 (s.c / 8)
def Tiny.main (s : Tiny) : Nat := s.c - s.window
def Tiny.prot (s : Tiny) : Nat := s.main * 4 / 5
def Tiny.len (s : Tiny) : Nat := (s.K 0).length + (s.K 1).length + (s.K 2).length
def Tiny.has (s : Tiny) (key : ByteArray) : Bool := decide (key ∈ s.K 0 ∨ key ∈ s.K 1 ∨ key ∈ s.K 2)
def Tiny.notes (s : Tiny) (key : ByteArray) : Tiny :=
 if s.d.has key = false then { s with d := s.d.add key }
 else if (s.k.add key).sum < s.k.sum then { s with k := s.k.add key, d := (s.d.add key).clear }
 else { s with k := s.k.add key, d := s.d.add key }
def Tiny.often (s : Tiny) (key : ByteArray) : Nat := s.k.count key + (s.d.has key).toNat
def Tiny.victim (s : Tiny) : Nat := if 0 < (s.K 1).length then 1 else if 0 < (s.K 2).length then 2 else 0
def Tiny.admits (s : Tiny) : List ByteArray × Tiny :=
 if (s.K 1).length + (s.K 2).length < s.main then ([], { s with K := pushK s.K 1 (oldest s.K 0) })
 else if s.victim = 0 ∨ s.often (oldest s.K 0) ≤ s.often (oldest s.K s.victim) then ([oldest s.K 0], { s with K := dropK s.K (oldest s.K 0) })
 else ([oldest s.K s.victim], { s with K := pushK (dropK s.K (oldest s.K s.victim)) 1 (oldest s.K 0) })
def Tiny.demote (s : Tiny) : Tiny := if s.prot < (s.K 2).length then { s with K := pushK s.K 1 (oldest s.K 2) } else s
def Tiny.fits (s : Tiny) : List ByteArray × Tiny := if s.window < (s.K 0).length then s.admits else ([], s)
def Tiny.access (s0 : Tiny) (key : ByteArray) : Bool × List ByteArray × Tiny :=
 let s := s0.notes key
 if key ∈ s.K 0 then (true, [], { s with K := pushK s.K 0 key })
 else if key ∈ s.K 1 ∨ key ∈ s.K 2 then (true, [], ({ s with K := pushK s.K 2 key } : Tiny).demote)
 else (false, ({ s with K := pushK s.K 0 key } : Tiny).fits)
def Tiny.load (s : Tiny) (key : ByteArray) : Bool × Tiny :=
 if s.has key = true ∨ s.len = s.c then (false, s)
 else if (s.K 1).length + (s.K 2).length < s.main then (true, { s with K := pushK s.K 1 key })
 else (true, { s with K := pushK s.K 0 key })
def Tiny.remove (s : Tiny) (key : ByteArray) : Bool × Tiny := if s.has key then (true, { s with K := dropK s.K key }) else (false, s)
def Tiny.evict (s : Tiny) : ByteArray × Bool × Tiny :=
 if s.len = 0 then (⟨#[]⟩, false, s) else (oldest s.K s.victim, true, { s with K := dropK s.K (oldest s.K s.victim) })
structure Tiny.Inv (s : Tiny) : Prop where
 nd : RNd 3 s.K
 c1 : 1 ≤ s.c
 c2 : s.c ≤ 1024
 win : (s.K 0).length ≤ s.window
 res : (s.K 1).length + (s.K 2).length ≤ s.main
 pr : (s.K 2).length ≤ s.prot
 ki : s.k.Inv
 di : s.d.Inv
theorem Sk.Inv.up_le {s : Sk} (h : s.Inv) (key : ByteArray) (hc : s.count key ≠ 15) : ∀ j, (s.up key).cell j ≤ 15 := by
 intro j
 simp only [Sk.up]
 have := h.le (s.at key 0)
 have : s.count key ≤ s.cell (s.at key 0) := Nat.min_le_left _ _
 split
 ·omega
 ·exact h.le j
theorem Sk.Inv.add {s : Sk} (h : s.Inv) (key : ByteArray) : (s.add key).Inv := by
 have hs := h.sum
 have hn := h.n8
 unfold Sk.add
 split
 ·exact h
 ·rename_i hc
  have hl := h.up_le key hc
  split
  ·rename_i h10
   exact ⟨h.n8, h.n2, h.ev, fun j => by have := hl j; simp only [Sk.halve]; omega, by simp only [Sk.halve, Sk.up]; omega⟩
  ·exact ⟨h.n8, h.n2, h.ev, hl, by simp only [Sk.up]; omega⟩
theorem Tiny.Inv.notes {s : Tiny} (h : s.Inv) (key : ByteArray) : (s.notes key).Inv ∧ (s.notes key).K = s.K ∧ (s.notes key).c = s.c := by
 obtain ⟨nd, c1, c2, win, res, pr, ki, di⟩ := h
 unfold Tiny.notes
 have d1 : (s.d.add key).Inv := ⟨di.n64, di.n2, di.ev⟩
 split
 ·exact ⟨⟨nd, c1, c2, win, res, pr, ki, d1⟩, rfl, rfl⟩
 ·split
  ·exact ⟨⟨nd, c1, c2, win, res, pr, ki.add key, ⟨di.n64, di.n2, di.ev⟩⟩, rfl, rfl⟩
  ·exact ⟨⟨nd, c1, c2, win, res, pr, ki.add key, d1⟩, rfl, rfl⟩
theorem Tiny.win_le {s : Tiny} (h1 : 1 ≤ s.c) : s.window ≤ s.c ∧ 1 ≤ s.window ∧ s.main + s.window = s.c := by
 unfold Tiny.main Tiny.window
 omega
theorem Tiny.victim_pos {s : Tiny} (h : s.victim ≠ 0) : 0 < (s.K s.victim).length ∧ (s.victim = 1 ∨ s.victim = 2) := by
 unfold Tiny.victim at *
 split at h
 ·rename_i h1; rw [if_pos h1]; exact ⟨h1, .inl rfl⟩
 ·rename_i h1
  split at h
  ·rename_i h2; rw [if_neg h1, if_pos h2]; exact ⟨h2, .inr rfl⟩
  ·exact absurd rfl h
/-- What is between a push into the window and the admission. -/
structure Tiny.Inv1 (s : Tiny) : Prop where
 nd : RNd 3 s.K
 c1 : 1 ≤ s.c
 c2 : s.c ≤ 1024
 win : (s.K 0).length ≤ s.window + 1
 res : (s.K 1).length + (s.K 2).length ≤ s.main
 pr : (s.K 2).length ≤ s.prot
 ki : s.k.Inv
 di : s.d.Inv
theorem Tiny.Inv1.fits {s : Tiny} (h : s.Inv1) : s.fits.2.Inv ∧ s.fits.2.c = s.c ∧ (s.fits.2.len + s.fits.1.length = s.len) := by
 obtain ⟨nd, c1, c2, win, res, pr, ki, di⟩ := h
 obtain ⟨w1, w2, w3⟩ := Tiny.win_le c1
 unfold Tiny.fits
 split
 ·rename_i hw
  have h0 : 0 < (s.K 0).length := by omega
  have hm := oldest_mem h0
  unfold Tiny.admits
  split
  ·have hd := push_move nd hm 1
   have d0 := hd 0
   have d1 := hd 1
   have d2 := hd 2
   simp at d0 d1 d2
   exact ⟨⟨nd.push (by omega) _ (oldest_sz nd 0), c1, c2, by simp only [Tiny.window] at *; omega, by simp only [Tiny.main, Tiny.window] at *; omega, by simp only [Tiny.prot, Tiny.main, Tiny.window] at *; omega, ki, di⟩, rfl, by simp only [Tiny.len, List.length_nil]; omega⟩
  ·split
   ·have hd := drop_len_in nd hm
    have d0 := hd 0
    have d1 := hd 1
    have d2 := hd 2
    simp at d0 d1 d2
    exact ⟨⟨nd.drop _, c1, c2, by simp only [Tiny.window] at *; omega, by simp only [Tiny.main, Tiny.window] at *; omega, by simp only [Tiny.prot, Tiny.main, Tiny.window] at *; omega, ki, di⟩, rfl, by simp only [Tiny.len, List.length_cons, List.length_nil]; omega⟩
   ·rename_i h1 h2
    simp only [not_or] at h2
    obtain ⟨v1, v2⟩ := Tiny.victim_pos h2.1
    have hmv := oldest_mem v1
    have hne : oldest s.K 0 ≠ oldest s.K s.victim := fun e => nd.dis 0 s.victim (fun e2 => h2.1 e2.symm) _ hm (e ▸ hmv)
    have hm2 : oldest s.K 0 ∈ dropK s.K (oldest s.K s.victim) 0 := mem_dropK.2 ⟨hm, hne⟩
    have hd := push_move (nd.drop (oldest s.K s.victim)) hm2 1
    have he := drop_len_in nd hmv
    have d0 := hd 0
    have d1 := hd 1
    have d2 := hd 2
    have e0 := he 0
    have e1 := he 1
    have e2 := he 2
    simp at d0 d1 d2
    have f0 : (dropK s.K (oldest s.K s.victim) 0).length = (s.K 0).length := by rcases v2 with v | v <;> simp [v] at e0 ⊢ <;> exact e0
    have f12 : (dropK s.K (oldest s.K s.victim) 1).length + (dropK s.K (oldest s.K s.victim) 2).length + 1 = (s.K 1).length + (s.K 2).length := by
     rcases v2 with v | v <;> simp [v] at e1 e2 ⊢ <;> omega
    have f2 := drop_len_le s.K (oldest s.K s.victim) 2
    exact ⟨⟨((nd.drop _).push (by omega) _ (oldest_sz nd 0) : RNd 3 (pushK (dropK s.K (oldest s.K s.victim)) 1 (oldest s.K 0))), c1, c2, by simp only [Tiny.window] at *; omega, by simp only [Tiny.main, Tiny.window] at *; omega, by simp only [Tiny.prot, Tiny.main, Tiny.window] at *; omega, ki, di⟩, rfl, by simp only [Tiny.len, List.length_cons, List.length_nil]; omega⟩
 ·rename_i hw
  have win2 : (s.K 0).length ≤ s.window := by omega
  exact ⟨⟨nd, c1, c2, win2, res, pr, ki, di⟩, rfl, rfl⟩
theorem Tiny.Inv.access {s0 : Tiny} (h0 : s0.Inv) {key : ByteArray} (hz : key.size ≤ maxLen) : (s0.access key).2.2.Inv := by
 obtain ⟨h, _, _⟩ := h0.notes key
 obtain ⟨nd, c1, c2, win, res, pr, ki, di⟩ := id h
 unfold Tiny.access
 simp only
 generalize s0.notes key = s at *
 split
 ·rename_i hm
  have hd := push_move nd hm 0
  have d0 := hd 0
  have d1 := hd 1
  have d2 := hd 2
  simp at d0 d1 d2
  exact ⟨nd.push (by omega) _ hz, c1, c2, by simp only [Tiny.window] at *; omega, by simp only [Tiny.main, Tiny.window] at *; omega, by simp only [Tiny.prot, Tiny.main, Tiny.window] at *; omega, ki, di⟩
 ·split
  ·rename_i hn0 hm
   have hnd2 := nd.push (r := 2) (by omega) key hz
   have hl : (pushK s.K 2 key 0).length = (s.K 0).length ∧ (pushK s.K 2 key 1).length + (pushK s.K 2 key 2).length = (s.K 1).length + (s.K 2).length ∧ (pushK s.K 2 key 2).length ≤ (s.K 2).length + 1 := by
    rcases hm with hm | hm
    ·have hd := push_move nd hm 2
     have d0 := hd 0
     have d1 := hd 1
     have d2 := hd 2
     simp at d0 d1 d2
     omega
    ·have hd := push_move nd hm 2
     have d0 := hd 0
     have d1 := hd 1
     have d2 := hd 2
     simp at d0 d1 d2
     omega
   obtain ⟨l0, l1, l2⟩ := hl
   unfold Tiny.demote
   split
   ·rename_i hp
    simp only at hp ⊢
    have hm2 := oldest_mem (K := pushK s.K 2 key) (r := 2) (by omega)
    have hd := push_move hnd2 hm2 1
    have d0 := hd 0
    have d1 := hd 1
    have d2 := hd 2
    simp at d0 d1 d2
    exact ⟨hnd2.push (by omega) _ (oldest_sz hnd2 2), c1, c2, by simp only [Tiny.window] at *; omega, by simp only [Tiny.main, Tiny.window] at *; omega, by simp only [Tiny.prot, Tiny.main, Tiny.window] at *; omega, ki, di⟩
   ·rename_i hp
    exact ⟨hnd2, c1, c2, by simp only [Tiny.window] at *; omega, by simp only [Tiny.main, Tiny.window] at *; omega, by simp only [Tiny.prot, Tiny.main, Tiny.window] at *; omega, ki, di⟩
  ·rename_i hn0 hm
   simp only [not_or] at hm
   have hk : ∀ i, key ∉ s.K i := not_rows nd fun i hi => by
    have : i = 0 ∨ i = 1 ∨ i = 2 := by omega
    rcases this with rfl | rfl | rfl
    ·exact hn0
    ·exact hm.1
    ·exact hm.2
   have hd := push_new hk 0
   have d0 := hd 0
   have d1 := hd 1
   have d2 := hd 2
   simp at d0 d1 d2
   exact (Tiny.Inv1.fits (s := { s with K := pushK s.K 0 key }) ⟨nd.push (by omega) _ hz, c1, c2, by simp only [Tiny.window] at *; omega, by simp only [Tiny.main, Tiny.window] at *; omega, by simp only [Tiny.prot, Tiny.main, Tiny.window] at *; omega, ki, di⟩).1
end Go.Proofs.YtfeicmpbfbhiiaaGreat
set_option linter.unusedVariables false
set_option linter.unusedSimpArgs false
namespace Go.Proofs.YtfeicmpbfbhiiaaGreat
open Go.RowKit
abbrev Stk := List (ByteArray × Nat)
structure Lirs where
 S : Stk
 Q : List ByteArray
 c : Nat
/-- What a key is in S; 0: it is not there. -/
def stS (S : Stk) (key : ByteArray) : Nat := ((S.find? fun e => decide (e.1 = key)).map (·.2)).getD 0
def cutS (S : Stk) (key : ByteArray) : Stk := S.filter fun e => decide (e.1 ≠ key)
def cutQ (Q : List ByteArray) (key : ByteArray) : List ByteArray := Q.filter fun e => decide (e ≠ key)
def cntS (S : Stk) (is : Nat) : Nat := S.countP fun e => decide (e.2 = is)
def lowS (S : Stk) (is : Nat) : Option ByteArray := (S.find? fun e => decide (e.2 = is)).map (·.1)
def pruneS (S : Stk) : Stk := S.dropWhile fun e => decide (e.2 ≠ 1)
def forgetS (c : Nat) (S : Stk) : Stk := if c < cntS S 3 then cutS S ((lowS S 3).getD ⟨#[]⟩) else S
def Lirs.most (s : Lirs) : Nat := s.c - max 1 (s.c / 10)
def Lirs.len (s : Lirs) : Nat := s.Q.length + cntS s.S 1
def Lirs.has (s : Lirs) (key : ByteArray) : Bool := decide (stS s.S key = 1 ∨ key ∈ s.Q)
def Lirs.cools (s : Lirs) : Lirs := let k := (lowS s.S 1).getD ⟨#[]⟩; { s with S := pruneS (cutS s.S k), Q := s.Q ++ [k] }
def Lirs.heats1 (s : Lirs) (key : ByteArray) : Lirs := { s with S := cutS s.S key ++ [(key, 1)], Q := cutQ s.Q key }
def Lirs.heats (s : Lirs) (key : ByteArray) : Lirs := if s.most < cntS (s.heats1 key).S 1 then (s.heats1 key).cools else s.heats1 key
def Lirs.chills (s : Lirs) (key : ByteArray) : Lirs := { s with S := cutS s.S key ++ [(key, 2)], Q := cutQ s.Q key ++ [key] }
def Lirs.prunes (s : Lirs) : Lirs := { s with S := pruneS s.S }
def Lirs.forgets (s : Lirs) : Lirs := { s with S := forgetS s.c s.S }
def toGhost (S : Stk) (k : ByteArray) : Stk := S.map fun e => if e.1 = k then (e.1, 3) else e
def Lirs.leaves (s : Lirs) : Lirs := { s with S := toGhost s.S (s.Q.headD ⟨#[]⟩), Q := s.Q.tail }
def Lirs.ready (s : Lirs) : Lirs := if s.Q = [] then s.cools else s
def Lirs.evict (s : Lirs) : ByteArray × Bool × Lirs :=
 if s.len = 0 then (⟨#[]⟩, false, s) else (s.ready.Q.headD ⟨#[]⟩, true, s.ready.leaves.forgets.prunes)
def Lirs.room (s : Lirs) : List ByteArray × Lirs := if s.len < s.c then ([], s) else ([s.evict.1], s.evict.2.2)
def Lirs.access (s : Lirs) (key : ByteArray) : Bool × List ByteArray × Lirs :=
 if stS s.S key = 1 ∨ (key ∈ s.Q ∧ stS s.S key = 2) then (true, [], (s.heats key).prunes)
 else if key ∈ s.Q then (true, [], (s.chills key).prunes)
 else
  let r := s.room
  (false, r.1, (if cntS r.2.S 1 < s.most ∨ stS r.2.S key = 3 then r.2.heats key else r.2.chills key).forgets.prunes)
def Lirs.load (s : Lirs) (key : ByteArray) : Bool × Lirs :=
 if s.has key = true ∨ s.len = s.c then (false, s)
 else (true, (if cntS s.S 1 < s.most then s.heats key else s.chills key).prunes)
def Lirs.remove (s : Lirs) (key : ByteArray) : Bool × Lirs :=
 if s.has key then (true, ({ s with S := cutS s.S key, Q := cutQ s.Q key } : Lirs).prunes) else (false, s)
structure SInv (S : Stk) (Q : List ByteArray) : Prop where
 nd : (S.map (·.1)).Nodup
 qd : Q.Nodup
 ok : ∀ e, e ∈ S → (e.2 = 1 ∧ e.1 ∉ Q) ∨ (e.2 = 2 ∧ e.1 ∈ Q) ∨ (e.2 = 3 ∧ e.1 ∉ Q)
 sz : ∀ e, e ∈ S → e.1.size ≤ maxLen
 qz : ∀ k, k ∈ Q → k.size ≤ maxLen
structure Lirs.Inv (s : Lirs) : Prop where
 si : SInv s.S s.Q
 c1 : 1 ≤ s.c
 c2 : s.c ≤ 1024
 res : s.Q.length + cntS s.S 1 ≤ s.c
 hm : cntS s.S 1 ≤ s.most
 gh : cntS s.S 3 ≤ s.c
theorem SInv.sub {S S' : Stk} {Q : List ByteArray} (h : SInv S Q) (hs : S'.Sublist S) : SInv S' Q :=
 ⟨h.nd.sublist (hs.map _), h.qd, fun e he => h.ok e (hs.subset he), fun e he => h.sz e (hs.subset he), h.qz⟩
theorem cutS_sub (S : Stk) (key : ByteArray) : (cutS S key).Sublist S := List.filter_sublist
theorem pruneS_sub (S : Stk) : (pruneS S).Sublist S := List.dropWhile_sublist _
theorem mem_cutS {S : Stk} {key : ByteArray} {e : ByteArray × Nat} : e ∈ cutS S key ↔ e ∈ S ∧ e.1 ≠ key := by simp [cutS]
theorem mem_cutQ {Q : List ByteArray} {key e : ByteArray} : e ∈ cutQ Q key ↔ e ∈ Q ∧ e ≠ key := by simp [cutQ]
theorem SInv.cut {S : Stk} {Q : List ByteArray} (h : SInv S Q) (key : ByteArray) : SInv (cutS S key) (cutQ Q key) := by
 have h1 := h.sub (cutS_sub S key)
 refine ⟨h1.nd, h.qd.filter _, fun e he => ?_, h1.sz, fun k hk => h.qz k (mem_cutQ.1 hk).1⟩
 have hn := (mem_cutS.1 he).2
 rcases h1.ok e he with ⟨a, b⟩ | ⟨a, b⟩ | ⟨a, b⟩
 ·exact .inl ⟨a, fun hx => b (mem_cutQ.1 hx).1⟩
 ·exact .inr (.inl ⟨a, mem_cutQ.2 ⟨b, hn⟩⟩)
 ·exact .inr (.inr ⟨a, fun hx => b (mem_cutQ.1 hx).1⟩)
theorem not_mem_cutS (S : Stk) (key : ByteArray) : key ∉ (cutS S key).map (·.1) := by
 intro h
 obtain ⟨e, he, h2⟩ := List.mem_map.1 h
 exact (mem_cutS.1 he).2 h2
theorem not_mem_cutQ (Q : List ByteArray) (key : ByteArray) : key ∉ cutQ Q key := fun h => (mem_cutQ.1 h).2 rfl
theorem nd_snoc {α : Type} {l : List α} {a : α} (h : l.Nodup) (ha : a ∉ l) : (l ++ [a]).Nodup := by
 rw [List.nodup_append]
 exact ⟨h, by simp, by intro x hx y hy; simp at hy; subst hy; rintro rfl; exact ha hx⟩
theorem SInv.hot {S : Stk} {Q : List ByteArray} (h : SInv S Q) {key : ByteArray} (hz : key.size ≤ maxLen) (h1 : key ∉ S.map (·.1)) (h2 : key ∉ Q) : SInv (S ++ [(key, 1)]) Q := by
 refine ⟨by rw [List.map_append]; exact nd_snoc h.nd h1, h.qd, fun e he => ?_, fun e he => ?_, h.qz⟩
 ·rcases List.mem_append.1 he with he | he
  ·exact h.ok e he
  ·simp at he; subst he; exact .inl ⟨rfl, h2⟩
 ·rcases List.mem_append.1 he with he | he
  ·exact h.sz e he
  ·simp at he; subst he; exact hz
theorem SInv.cold {S : Stk} {Q : List ByteArray} (h : SInv S Q) {key : ByteArray} (hz : key.size ≤ maxLen) (h1 : key ∉ S.map (·.1)) (h2 : key ∉ Q) : SInv S (Q ++ [key]) ∧ SInv (S ++ [(key, 2)]) (Q ++ [key]) := by
 have hne : ∀ e, e ∈ S → e.1 ≠ key := fun e he h3 => h1 (by rw [← h3]; exact List.mem_map_of_mem he)
 have hok : ∀ e, e ∈ S → (e.2 = 1 ∧ e.1 ∉ Q ++ [key]) ∨ (e.2 = 2 ∧ e.1 ∈ Q ++ [key]) ∨ (e.2 = 3 ∧ e.1 ∉ Q ++ [key]) := fun e he => by
  have := hne e he
  rcases h.ok e he with ⟨a, b⟩ | ⟨a, b⟩ | ⟨a, b⟩
  ·exact .inl ⟨a, by simp [b, this]⟩
  ·exact .inr (.inl ⟨a, by simp [b]⟩)
  ·exact .inr (.inr ⟨a, by simp [b, this]⟩)
 have hqz : ∀ k, k ∈ Q ++ [key] → k.size ≤ maxLen := fun k hk => by
  rcases List.mem_append.1 hk with hk | hk
  ·exact h.qz k hk
  ·simp at hk; subst hk; exact hz
 refine ⟨⟨h.nd, nd_snoc h.qd h2, hok, h.sz, hqz⟩, ⟨by rw [List.map_append]; exact nd_snoc h.nd h1, nd_snoc h.qd h2, fun e he => ?_, fun e he => ?_, hqz⟩⟩
 ·rcases List.mem_append.1 he with he | he
  ·exact hok e he
  ·simp at he; subst he; exact .inr (.inl ⟨rfl, by simp⟩)
 ·rcases List.mem_append.1 he with he | he
  ·exact h.sz e he
  ·simp at he; subst he; exact hz
theorem cntS_cut_le (S : Stk) (key : ByteArray) (is : Nat) : cntS (cutS S key) is ≤ cntS S is := (cutS_sub S key).countP_le
theorem cntS_cut {S : Stk} {key : ByteArray} {n : Nat} (hn : (S.map (·.1)).Nodup) (h : (key, n) ∈ S) (is : Nat) : cntS (cutS S key) is + (if n = is then 1 else 0) = cntS S is := by
 induction S with
 | nil => cases h
 | cons a l ih =>
  simp only [List.map_cons] at hn
  have hn2 := List.nodup_cons.1 hn
  by_cases e : a.1 = key
  ·have ha : a = (key, n) := by
    rcases List.mem_cons.1 h with h | h
    ·exact h.symm
    ·exact absurd (by rw [e]; exact List.mem_map_of_mem (f := (·.1)) h) hn2.1
   subst ha
   have hc : cutS ((key, n) :: l) key = l := by
    unfold cutS
    rw [List.filter_cons_of_neg (by simp), List.filter_eq_self]
    intro x hx
    simp
    intro e2
    exact hn2.1 (by simp only; rw [← e2]; exact List.mem_map_of_mem (f := (·.1)) hx)
   rw [hc]
   simp only [cntS, List.countP_cons]
   by_cases e3 : n = is <;> simp [e3]
  ·have hc : cutS (a :: l) key = a :: cutS l key := by
    unfold cutS
    rw [List.filter_cons_of_pos (by simpa using e)]
   have hl : (key, n) ∈ l := by
    rcases List.mem_cons.1 h with h | h
    ·exact absurd (by rw [← h]) e
    ·exact h
   have := ih hn2.2 hl
   rw [hc]
   simp only [cntS, List.countP_cons] at this ⊢
   omega
theorem cutS_not {S : Stk} {key : ByteArray} (h : key ∉ S.map (·.1)) : cutS S key = S := by
 unfold cutS
 rw [List.filter_eq_self]
 intro x hx
 simp
 rintro rfl
 exact h (List.mem_map_of_mem hx)
theorem cutQ_not {Q : List ByteArray} {key : ByteArray} (h : key ∉ Q) : cutQ Q key = Q := by
 unfold cutQ
 rw [List.filter_eq_self]
 intro x hx
 simp
 rintro rfl
 exact h hx
theorem cutQ_len {Q : List ByteArray} {key : ByteArray} (hn : Q.Nodup) (h : key ∈ Q) : (cutQ Q key).length + 1 = Q.length := len_filter_nd hn h
theorem cutQ_le (Q : List ByteArray) (key : ByteArray) : (cutQ Q key).length ≤ Q.length := List.length_filter_le _ _
theorem cntS_snoc (S : Stk) (key : ByteArray) (n is : Nat) : cntS (S ++ [(key, n)]) is = cntS S is + (if n = is then 1 else 0) := by
 simp only [cntS, List.countP_append, List.countP_cons, List.countP_nil]
 by_cases e : n = is <;> simp [e]
theorem cntS_prune1 (S : Stk) : cntS (pruneS S) 1 = cntS S 1 := by
 induction S with
 | nil => rfl
 | cons a l ih =>
  unfold pruneS at *
  by_cases e : a.2 = 1
  ·rw [List.dropWhile_cons_of_neg (by simp [e])]
  ·rw [List.dropWhile_cons_of_pos (by simpa using e), ih]
   simp [cntS, List.countP_cons, e]
theorem cntS_prune_le (S : Stk) (is : Nat) : cntS (pruneS S) is ≤ cntS S is := (pruneS_sub S).countP_le
theorem lowS_some {S : Stk} {is : Nat} (h : 0 < cntS S is) : ∃ k, lowS S is = some k ∧ (k, is) ∈ S := by
 unfold cntS at h
 obtain ⟨e, he, h2⟩ := List.countP_pos_iff.1 h
 cases hf : S.find? fun e => decide (e.2 = is) with
 | none => exact absurd h2 (by have := List.find?_eq_none.1 hf e he; simpa using this)
 | some x =>
  have h3 := List.find?_some hf
  have h4 := List.mem_of_find?_eq_some hf
  simp at h3
  exact ⟨x.1, by simp [lowS, hf], by rw [← h3]; exact h4⟩
theorem stS_mem {S : Stk} {key : ByteArray} {n : Nat} (hn : (S.map (·.1)).Nodup) (h : (key, n) ∈ S) : stS S key = n := by
 induction S with
 | nil => cases h
 | cons a l ih =>
  simp only [List.map_cons] at hn
  have hn2 := List.nodup_cons.1 hn
  unfold stS at *
  by_cases e : a.1 = key
  ·rw [List.find?_cons_of_pos (by simpa using e)]
   rcases List.mem_cons.1 h with h | h
   ·subst h; rfl
   ·exact absurd (by rw [e]; exact List.mem_map_of_mem (f := (·.1)) h) hn2.1
  ·rw [List.find?_cons_of_neg (by simpa using e)]
   refine ih hn2.2 ?_
   rcases List.mem_cons.1 h with h | h
   ·exact absurd (by rw [← h]) e
   ·exact h
theorem stS_not {S : Stk} {key : ByteArray} (h : key ∉ S.map (·.1)) : stS S key = 0 := by
 unfold stS
 rw [List.find?_eq_none.2]
 ·rfl
 ·intro x hx
  simp
  rintro rfl
  exact h (List.mem_map_of_mem hx)
theorem stS_pos {S : Stk} {key : ByteArray} {n : Nat} (h : stS S key = n) (h0 : n ≠ 0) : (key, n) ∈ S := by
 unfold stS at h
 cases hf : S.find? fun e => decide (e.1 = key) with
 | none => rw [hf] at h; simp at h; omega
 | some x =>
  have h3 := List.find?_some hf
  have h4 := List.mem_of_find?_eq_some hf
  rw [hf] at h
  simp at h3 h
  rw [← h3, ← h]
  exact h4
/-- The parts of the invariant that cools keeps. -/
theorem cools_inv {s : Lirs} (h : SInv s.S s.Q) (h1 : 0 < cntS s.S 1) :
  SInv s.cools.S s.cools.Q ∧ cntS s.cools.S 1 + 1 = cntS s.S 1 ∧ s.cools.Q.length = s.Q.length + 1 ∧ cntS s.cools.S 3 ≤ cntS s.S 3 ∧ s.cools.c = s.c := by
 obtain ⟨k, hk, hm⟩ := lowS_some h1
 have hq : k ∉ s.Q := by
  rcases h.ok _ hm with ⟨_, b⟩ | ⟨a, _⟩ | ⟨a, _⟩
  ·exact b
  ·cases a
  ·cases a
 have hz := h.sz _ hm
 unfold Lirs.cools
 simp only [hk, Option.getD_some]
 have a1 := cntS_cut h.nd hm 1
 have a3 := cntS_cut_le s.S k 3
 have hs := (h.sub (cutS_sub s.S k)).cold hz (not_mem_cutS _ _) hq
 refine ⟨hs.1.sub (pruneS_sub _), ?_, by simp, Nat.le_trans (cntS_prune_le _ _) a3, trivial⟩
 rw [cntS_prune1]
 simpa using a1
theorem heats_inv {s : Lirs} (h : SInv s.S s.Q) {key : ByteArray} (hz : key.size ≤ maxLen) (hm : cntS s.S 1 ≤ s.most) :
  SInv (s.heats key).S (s.heats key).Q ∧ cntS (s.heats key).S 1 ≤ s.most ∧ (s.heats key).c = s.c ∧ cntS (s.heats key).S 3 ≤ cntS s.S 3 ∧
  (s.heats key).Q.length + cntS (s.heats key).S 1 = (cutQ s.Q key).length + cntS (cutS s.S key) 1 + 1 := by
 have hi : SInv (s.heats1 key).S (s.heats1 key).Q := (h.cut key).hot hz (not_mem_cutS _ _) (not_mem_cutQ _ _)
 have e1 : cntS (s.heats1 key).S 1 = cntS (cutS s.S key) 1 + 1 := by
  show cntS (cutS s.S key ++ [(key, 1)]) 1 = _
  rw [cntS_snoc]; simp
 have e3 : cntS (s.heats1 key).S 3 = cntS (cutS s.S key) 3 := by
  show cntS (cutS s.S key ++ [(key, 1)]) 3 = _
  rw [cntS_snoc]; simp
 have l1 := cntS_cut_le s.S key 1
 have l3 := cntS_cut_le s.S key 3
 unfold Lirs.heats
 split
 ·rename_i hlt
  obtain ⟨a1, a2, a3, a4, a5⟩ := cools_inv hi (by omega)
  exact ⟨a1, by omega, a5, by omega, by rw [a3]; show (cutQ s.Q key).length + 1 + _ = _; omega⟩
 ·rename_i hlt
  exact ⟨hi, by omega, rfl, by omega, by show (cutQ s.Q key).length + _ = _; omega⟩
theorem chills_inv {s : Lirs} (h : SInv s.S s.Q) {key : ByteArray} (hz : key.size ≤ maxLen) :
  SInv (s.chills key).S (s.chills key).Q ∧ cntS (s.chills key).S 1 = cntS (cutS s.S key) 1 ∧ cntS (s.chills key).S 3 = cntS (cutS s.S key) 3 ∧ (s.chills key).Q.length = (cutQ s.Q key).length + 1 := by
 refine ⟨((h.cut key).cold hz (not_mem_cutS _ _) (not_mem_cutQ _ _)).2, ?_, ?_, ?_⟩
 ·show cntS (cutS s.S key ++ [(key, 2)]) 1 = _
  rw [cntS_snoc]; simp
 ·show cntS (cutS s.S key ++ [(key, 2)]) 3 = _
  rw [cntS_snoc]; simp
 ·show (cutQ s.Q key ++ [key]).length = _
  simp
theorem Lirs.Inv.prunes {s : Lirs} (h : s.Inv) : s.prunes.Inv ∧ s.prunes.len = s.len := by
 obtain ⟨si, c1, c2, res, hm, gh⟩ := h
 have e1 := cntS_prune1 s.S
 have e3 := cntS_prune_le s.S 3
 exact ⟨⟨si.sub (pruneS_sub _), c1, c2, by simp only [Lirs.prunes]; omega, by simp only [Lirs.prunes, Lirs.most] at *; omega, by simp only [Lirs.prunes]; omega⟩, by simp only [Lirs.len, Lirs.prunes]; omega⟩
/-- With one ghost too many, at most. -/
theorem forgets_inv {s : Lirs} (si : SInv s.S s.Q) (c1 : 1 ≤ s.c) (c2 : s.c ≤ 1024) (res : s.Q.length + cntS s.S 1 ≤ s.c) (hm : cntS s.S 1 ≤ s.most) (gh : cntS s.S 3 ≤ s.c + 1) : s.forgets.Inv ∧ s.forgets.len = s.len := by
 unfold Lirs.forgets forgetS
 split
 ·rename_i hlt
  obtain ⟨k, hk, hmm⟩ := lowS_some (S := s.S) (is := 3) (by omega)
  rw [hk]
  simp only [Option.getD_some]
  have a1 := cntS_cut si.nd hmm 1
  have a3 := cntS_cut si.nd hmm 3
  simp at a1 a3
  exact ⟨⟨si.sub (cutS_sub _ _), c1, c2, by simp only; omega, by simp only [Lirs.most] at *; omega, by simp only; omega⟩, by simp only [Lirs.len]; omega⟩
 ·rename_i hlt
  exact ⟨⟨si, c1, c2, res, hm, by simp only; omega⟩, rfl⟩
theorem ready_inv {s : Lirs} (h : s.Inv) (hl : s.len ≠ 0) : SInv s.ready.S s.ready.Q ∧ s.ready.Q ≠ [] ∧ s.ready.Q.length + cntS s.ready.S 1 = s.len ∧ cntS s.ready.S 1 ≤ s.most ∧ cntS s.ready.S 3 ≤ s.c ∧ s.ready.c = s.c := by
 obtain ⟨si, c1, c2, res, hm, gh⟩ := h
 simp only [Lirs.len] at hl
 unfold Lirs.ready
 split
 ·rename_i hq
  rw [hq] at hl
  simp at hl
  obtain ⟨a1, a2, a3, a4, a5⟩ := cools_inv si (by omega)
  exact ⟨a1, by intro e; rw [e] at a3; simp at a3, by simp only [Lirs.len]; omega, by omega, by omega, a5⟩
 ·rename_i hq
  exact ⟨si, hq, rfl, hm, gh, rfl⟩
theorem ghost_inv {S : Stk} {k : ByteArray} {q : List ByteArray} (si : SInv S (k :: q)) : SInv (toGhost S k) q ∧ cntS (toGhost S k) 1 = cntS S 1 ∧ cntS (toGhost S k) 3 ≤ cntS S 3 + 1 := by
  unfold toGhost
  have hqn := List.nodup_cons.1 si.qd
  have hne : ∀ e, e ∈ S → e.1 = k → e.2 = 2 := fun e he h2 => by
   rcases si.ok e he with ⟨_, b⟩ | ⟨a, _⟩ | ⟨_, b⟩
   ·exact absurd (by rw [h2]; simp) b
   ·exact a
   ·exact absurd (by rw [h2]; simp) b
  refine ⟨⟨?_, hqn.2, ?_, ?_, fun x hx => si.qz x (List.mem_cons_of_mem _ hx)⟩, ?_, ?_⟩
  ·have : (S.map fun e => if e.1 = k then (e.1, 3) else e).map (·.1) = S.map (·.1) := by
    rw [List.map_map]
    apply List.map_congr_left
    intro e _
    simp only [Function.comp]
    split <;> rfl
   rw [this]; exact si.nd
  ·intro e he
   obtain ⟨x, hx, rfl⟩ := List.mem_map.1 he
   by_cases e1 : x.1 = k
   ·rw [if_pos e1]
    exact .inr (.inr ⟨rfl, by simp only; rw [e1]; exact hqn.1⟩)
   ·rw [if_neg e1]
    rcases si.ok x hx with ⟨a, b⟩ | ⟨a, b⟩ | ⟨a, b⟩
    ·exact .inl ⟨a, fun h => b (List.mem_cons_of_mem _ h)⟩
    ·exact .inr (.inl ⟨a, by simpa [e1] using b⟩)
    ·exact .inr (.inr ⟨a, fun h => b (List.mem_cons_of_mem _ h)⟩)
  ·intro e he
   obtain ⟨x, hx, rfl⟩ := List.mem_map.1 he
   have := si.sz x hx
   split <;> exact this
  ·simp only [cntS]
   rw [List.countP_map]
   apply List.countP_congr
   intro e he
   simp only [Function.comp]
   by_cases e1 : e.1 = k
   ·have := hne e he e1
    simp [e1, this]
   ·simp [e1]
  ·have hnd := si.nd
   clear si hqn
   simp only [cntS]
   induction S with
   | nil => simp
   | cons a l ih =>
    simp only [List.map_cons] at hnd
    have hn2 := List.nodup_cons.1 hnd
    simp only [List.map_cons, List.countP_cons]
    by_cases e1 : a.1 = k
    ·have hid : (l.map fun e => if e.1 = k then (e.1, 3) else e) = l := by
      conv => rhs; rw [← List.map_id l]
      apply List.map_congr_left
      intro e he
      rw [if_neg]
      ·rfl
      ·intro e2; exact hn2.1 (by rw [e1, ← e2]; exact List.mem_map_of_mem (f := (·.1)) he)
     rw [hid, if_pos e1]
     simp only
     split <;> omega
    ·rw [if_neg e1]
     have := ih (fun e he => hne e (List.mem_cons_of_mem _ he)) hn2.2
     omega
theorem leaves_inv {s : Lirs} (si : SInv s.S s.Q) (hq : s.Q ≠ []) : SInv s.leaves.S s.leaves.Q ∧ s.leaves.Q.length + 1 = s.Q.length ∧ cntS s.leaves.S 1 = cntS s.S 1 ∧ cntS s.leaves.S 3 ≤ cntS s.S 3 + 1 := by
 obtain ⟨S, Q, c⟩ := s
 cases Q with
 | nil => exact absurd rfl hq
 | cons k q =>
  obtain ⟨h1, h2, h3⟩ := ghost_inv si
  exact ⟨h1, rfl, h2, h3⟩
theorem Lirs.Inv.evict {s : Lirs} (h : s.Inv) : s.evict.2.2.Inv ∧ s.evict.2.2.c = s.c ∧ s.evict.2.2.len + (if s.len = 0 then 0 else 1) = s.len := by
 unfold Lirs.evict
 split
 ·exact ⟨h, rfl, by simp⟩
 ·rename_i hl
  obtain ⟨a1, a2, a3, a4, a5, a6⟩ := ready_inv h hl
  obtain ⟨b1, b2, b3, b4⟩ := leaves_inv a1 a2
  have hc : s.ready.leaves.c = s.c := a6
  have hr : s.len ≤ s.c := h.res
  obtain ⟨d1, d2⟩ := forgets_inv b1 (by rw [hc]; exact h.c1) (by rw [hc]; exact h.c2) (by omega) (by rw [b3]; simp only [Lirs.most] at *; rw [hc]; exact a4) (by omega)
  obtain ⟨f1, f2⟩ := d1.prunes
  refine ⟨f1, hc, ?_⟩
  simp only
  rw [f2, d2]
  simp only [Lirs.len] at *
  omega
theorem Lirs.Inv.room {s : Lirs} (h : s.Inv) : s.room.2.Inv ∧ s.room.2.c = s.c ∧ s.room.2.len < s.c := by
 unfold Lirs.room
 split
 ·rename_i hl
  exact ⟨h, rfl, hl⟩
 ·rename_i hl
  obtain ⟨a1, a2, a3⟩ := h.evict
  have hc := h.c1
  have hr : s.len ≤ s.c := h.res
  refine ⟨a1, a2, ?_⟩
  rw [if_neg (by omega)] at a3
  simp only
  omega
theorem Lirs.Inv.access {s : Lirs} (h : s.Inv) {key : ByteArray} (hz : key.size ≤ maxLen) : (s.access key).2.2.Inv := by
 obtain ⟨si, c1, c2, res, hm, gh⟩ := id h
 unfold Lirs.access
 split
 ·rename_i hx
  obtain ⟨a1, a2, a3, a4, a5⟩ := heats_inv si hz hm
  have hle : (cutQ s.Q key).length + cntS (cutS s.S key) 1 + 1 ≤ s.c := by
   rcases hx with hx | ⟨hx, _⟩
   ·have hmem := stS_pos hx (by omega)
    have := cntS_cut si.nd hmem 1
    have := cutQ_le s.Q key
    simp at *
    omega
   ·have := cutQ_len si.qd hx
    have := cntS_cut_le s.S key 1
    omega
  exact (Lirs.Inv.prunes (s := s.heats key) ⟨a1, by rw [a3]; exact c1, by rw [a3]; exact c2, by rw [a3]; omega, by simp only [Lirs.most] at *; rw [a3]; exact a2, by rw [a3]; omega⟩).1
 ·split
  ·rename_i hx hq
   obtain ⟨a1, a2, a3, a4⟩ := chills_inv si hz (key := key)
   have := cutQ_len si.qd hq
   have := cntS_cut_le s.S key 1
   have := cntS_cut_le s.S key 3
   exact (Lirs.Inv.prunes (s := s.chills key) ⟨a1, c1, c2, by show _ ≤ s.c; omega, by show _ ≤ s.most; omega, by show _ ≤ s.c; omega⟩).1
  ·rename_i hx hq
   obtain ⟨hr, rc, rl⟩ := h.room
   simp only
   generalize s.room = r at *
   obtain ⟨g, r⟩ := r
   simp only at *
   obtain ⟨si, c1, c2, res, hm, gh⟩ := hr
   simp only [Lirs.len] at rl
   have l1 := cntS_cut_le r.S key 1
   have l3 := cntS_cut_le r.S key 3
   have lq := cutQ_le r.Q key
   split
   ·obtain ⟨a1, a2, a3, a4, a5⟩ := heats_inv si hz hm
    exact (forgets_inv (s := r.heats key) a1 (by rw [a3]; exact c1) (by rw [a3]; exact c2) (by rw [a3]; omega) (by simp only [Lirs.most] at *; rw [a3]; exact a2) (by rw [a3]; omega)).1.prunes.1
   ·obtain ⟨a1, a2, a3, a4⟩ := chills_inv si hz (key := key)
    exact (forgets_inv (s := r.chills key) a1 c1 c2 (by show _ ≤ r.c; omega) (by show _ ≤ r.most; omega) (by show _ ≤ r.c + 1; omega)).1.prunes.1
theorem Lirs.Inv.load {s : Lirs} (h : s.Inv) {key : ByteArray} (hz : key.size ≤ maxLen) : (s.load key).2.Inv := by
 obtain ⟨si, c1, c2, res, hm, gh⟩ := id h
 unfold Lirs.load
 split
 ·exact h
 ·rename_i hx
  simp only [not_or, Lirs.len] at hx
  have l1 := cntS_cut_le s.S key 1
  have l3 := cntS_cut_le s.S key 3
  have lq := cutQ_le s.Q key
  split
  ·obtain ⟨a1, a2, a3, a4, a5⟩ := heats_inv si hz hm
   exact (Lirs.Inv.prunes (s := s.heats key) ⟨a1, by rw [a3]; exact c1, by rw [a3]; exact c2, by rw [a3]; omega, by simp only [Lirs.most] at *; rw [a3]; exact a2, by rw [a3]; omega⟩).1
  ·obtain ⟨a1, a2, a3, a4⟩ := chills_inv si hz (key := key)
   exact (Lirs.Inv.prunes (s := s.chills key) ⟨a1, c1, c2, by show _ ≤ s.c; omega, by show _ ≤ s.most; omega, by show _ ≤ s.c; omega⟩).1
theorem Lirs.Inv.remove {s : Lirs} (h : s.Inv) (key : ByteArray) : (s.remove key).2.Inv := by
 unfold Lirs.remove
 split
 ·obtain ⟨si, c1, c2, res, hm, gh⟩ := id h
  have l1 := cntS_cut_le s.S key 1
  have l3 := cntS_cut_le s.S key 3
  have lq := cutQ_le s.Q key
  exact (Lirs.Inv.prunes (s := { s with S := cutS s.S key, Q := cutQ s.Q key }) ⟨si.cut key, c1, c2, by simp only; omega, by simp only [Lirs.most] at *; omega, by simp only; omega⟩).1
 ·exact h
end Go.Proofs.YtfeicmpbfbhiiaaGreat
