/- Small lemmas on blocks of memory, on frames and on footprints, over any program. -/
import Derived.WalkKit
import Derived.WalkSpells
import Derived.WalkLawsBesides
import Derived.Deep.QuietTactic
import Derived.BigQuiet
import Derived.IntWalk
import Derived.Lib.Hide
import Derived.Deep.RegionHeld3
import Derived.Deep.DrawnRows
import Derived.Deep.Cut
import Derived.Deep.DeepCutAuto
import Derived.Deep.AppendLies
import Derived.Deep.AppendSrc
set_option linter.unusedVariables false
set_option linter.unusedSimpArgs false
namespace Go.Proofs.YtphlancijlljcaaGreat
open Go.RowKit

/-- Outside of the blocks F all that was there is as it was. -/
structure Fr (F : List Nat) (w w' : World) : Prop where
  os : w'.os = w.os
  tape : w'.tape = w.tape
  output : w'.output = w.output
  size : w.heap.size ≤ w'.heap.size
  block : ∀ k, k < w.heap.size → k ∉ F → w'.heap[k]? = w.heap[k]?

theorem Fr.refl (F : List Nat) (w : World) : Fr F w w := ⟨rfl, rfl, rfl, Nat.le_refl _, fun _ _ _ => rfl⟩
theorem Fr.trans {F G H : List Nat} {a b c : World} (h : Fr F a b) (k : Fr G b c) (hF : ∀ x, x ∈ F → x < a.heap.size → x ∈ H) (hG : ∀ x, x ∈ G → x < a.heap.size → x ∈ H) : Fr H a c :=
  ⟨k.os.trans h.os, k.tape.trans h.tape, k.output.trans h.output, Nat.le_trans h.size k.size,
   fun i hi hn => (k.block i (Nat.lt_of_lt_of_le hi h.size) (fun hg => hn (hG i hg hi))).trans (h.block i hi (fun hf => hn (hF i hf hi)))⟩
theorem Fr.same {F : List Nat} {a b c : World} (h : Fr F a b) (k : Fr F b c) : Fr F a c := h.trans k (fun _ h _ => h) (fun _ h _ => h)
theorem Fr.mono {F G : List Nat} {a b : World} (h : Fr F a b) (hF : ∀ x, x ∈ F → x < a.heap.size → x ∈ G) : Fr G a b :=
  ⟨h.os, h.tape, h.output, h.size, fun i hi hn => h.block i hi (fun hf => hn (hF i hf hi))⟩
theorem Fr.drewN {F : List Nat} {a w : World} (h : Fr F a w) (n : Nat) : Fr F a (w.drewN n) := ⟨h.os, h.tape, h.output, h.size, h.block⟩
theorem Fr.drew {F : List Nat} {a w : World} (h : Fr F a w) : Fr F a w.drew := ⟨h.os, h.tape, h.output, h.size, h.block⟩
theorem Fr.setCell {F : List Nat} {a w : World} (h : Fr F a w) {p : Addr} (hp : p.block ∈ F) (u : Value) : Fr F a (w.setCell p u) :=
  h.same ⟨rfl, rfl, rfl, by simp [World.setCell], fun k _ hk => Below.heap_setCell _ _ _ _ (fun e => hk (e ▸ hp))⟩
/-- A store into a block that is new since a. -/
theorem Fr.setNew {F : List Nat} {a w : World} (h : Fr F a w) {p : Addr} (hp : a.heap.size ≤ p.block) (u : Value) : Fr F a (w.setCell p u) :=
  h.trans (G := [p.block]) ⟨rfl, rfl, rfl, by simp [World.setCell], fun k _ hk => Below.heap_setCell _ _ _ _ (fun e => hk (by simp [e]))⟩ (fun _ h _ => h) (fun x hx hl => by simp at hx; omega)
theorem Fr.alloc {F : List Nat} {a w : World} (h : Fr F a w) (o : Obj) : Fr F a (w.alloc o) :=
  h.same ⟨rfl, rfl, rfl, by simp, fun k hk _ => Below.heap_alloc _ _ _ hk⟩
theorem Fr.below {B : Nat} {a w : World} (h : Fr [] a w) (hB : B ≤ a.heap.size) : Below B a w :=
  ⟨h.os, h.tape, h.output, h.size, fun k hk => h.block k (Nat.lt_of_lt_of_le hk hB) (by simp)⟩
theorem Fr.ofBelow {a w : World} (h : Below a.heap.size a w) : Fr [] a w := ⟨h.os, h.tape, h.output, h.size, fun k hk _ => h.block k hk⟩
/-- What a law on append leaves. -/
theorem Fr.grown {F : List Nat} {a w w' : World} {row : Option Nat} (h : Fr F a w) (hg : w.grownBy w' row) (hr : ∀ k, row = some k → k ∈ F ∨ a.heap.size ≤ k) : Fr F a w' :=
  h.trans (G := row.toList) ⟨hg.os, hg.tape, hg.output, hg.size, fun k hk hn => hg.block k hk (fun e => hn (by simp [← e]))⟩ (fun _ h _ => h)
    (fun x hx hl => by
      rcases hr x (by simpa using hx) with h1 | h1
      · exact h1
      · omega)

/-- The blocks F' are among F, or new since w. -/
def Sub (F' F : List Nat) (w : World) : Prop := ∀ b, b ∈ F' → b ∈ F ∨ w.heap.size ≤ b
/-- No block is in both. -/
def Dis (F G : List Nat) : Prop := ∀ b, b ∈ F → b ∉ G
/-- All blocks from n on. -/
def Ge (n : Nat) (F : List Nat) : Prop := ∀ b, b ∈ F → n ≤ b
/-- All blocks are there. -/
def Lt (F : List Nat) (w : World) : Prop := ∀ b, b ∈ F → b < w.heap.size

theorem Sub.refl (F : List Nat) (w : World) : Sub F F w := fun _ h => .inl h
theorem Sub.trans {F G H : List Nat} {a b : World} (h : Sub G F a) (k : Sub H G b) (hs : a.heap.size ≤ b.heap.size) : Sub H F a := fun x hx => by
  rcases k x hx with h1 | h1
  · exact h x h1
  · right; omega
theorem Sub.ge {F' F : List Nat} {w : World} {n : Nat} (h : Sub F' F w) (hF : Ge n F) (hn : n ≤ w.heap.size) : Ge n F' := fun x hx => by
  rcases h x hx with h1 | h1
  · exact hF x h1
  · omega
theorem Dis.symm {F G : List Nat} (h : Dis F G) : Dis G F := fun b h1 h2 => h b h2 h1
theorem Dis.sub {F' F G : List Nat} {w : World} (h : Dis F G) (k : Sub F' F w) (hl : Lt G w) : Dis F' G := fun b h1 h2 => by
  rcases k b h1 with h3 | h3
  · exact h b h3 h2
  · have := hl b h2; omega
theorem Dis.new {F G : List Nat} {w : World} (h : Ge w.heap.size F) (hl : Lt G w) : Dis F G := fun b h1 h2 => by
  have := hl b h2; have := h b h1; omega
theorem Lt.fr {F G : List Nat} {w w' : World} (h : Lt F w) (k : Fr G w w') : Lt F w' := fun b hb => Nat.lt_of_lt_of_le (h b hb) k.size
theorem Ge.mono {n m : Nat} {F : List Nat} (h : Ge n F) (k : m ≤ n) : Ge m F := fun b hb => Nat.le_trans k (h b hb)
/-- What is done to blocks that are new since W leaves all that was there in W. -/
theorem Fr.fresh {F G : List Nat} {W w w' : World} (h : Fr G W w) (k : Fr F w w') (hF : Ge W.heap.size F) : Fr G W w' :=
  h.trans k (fun _ h _ => h) (fun x hx hl => by have := hF x hx; omega)

theorem lt_of_block {w : World} {b : Nat} {o : Obj} (h : w.heap[b]? = some o) : b < w.heap.size := (Array.getElem?_eq_some_iff.1 h).1
theorem Fr.get {F : List Nat} {a w : World} (h : Fr F a w) {b : Nat} {o : Obj} (hb : a.heap[b]? = some o) (hn : b ∉ F) : w.heap[b]? = some o :=
  (h.block b (lt_of_block hb) hn).trans hb

theorem cell_of_block {w : World} {b : Nat} {cs : Array Value} {T : TypeId} {z : Nat × Nat} (h : w.heap[b]? = some (.cells cs T z)) (i : Nat) : w.cell? ⟨b, i, none⟩ = cs[i]? := by
  simp [World.cell?, h]
theorem free_of_block {w : World} {b : Nat} {cs : Array Value} {T : TypeId} (h : w.heap[b]? = some (.cells cs T (0, 0))) (i : Nat) : w.frozen? ⟨b, i, none⟩ = false := by
  simp [World.frozen?, h]
theorem block_set_same {w : World} {b : Nat} {cs : Array Value} {T : TypeId} {z : Nat × Nat} (h : w.heap[b]? = some (.cells cs T z)) (i : Nat) (v : Value) : (w.setCell ⟨b, i, none⟩ v).heap[b]? = some (.cells (cs.setIfInBounds i v) T z) := by
  simp [World.setCell, Array.getElem?_modify, h]
theorem block_set_other {w : World} {b : Nat} {o : Option Obj} (h : w.heap[b]? = o) {p : Addr} (hp : p.block ≠ b) (v : Value) : (w.setCell p v).heap[b]? = o := by
  rw [Below.heap_setCell _ _ _ _ (Ne.symm hp)]; exact h
theorem block_drewN {w : World} {b n : Nat} {o : Option Obj} (h : w.heap[b]? = o) : (w.drewN n).heap[b]? = o := h
theorem block_drew {w : World} {b : Nat} {o : Option Obj} (h : w.heap[b]? = o) : w.drew.heap[b]? = o := h
theorem block_alloc_old {w : World} {b : Nat} {o : Obj} (h : w.heap[b]? = some o) (x : Obj) : (w.alloc x).heap[b]? = some o := by
  rw [Below.heap_alloc _ _ _ (lt_of_block h)]; exact h
theorem block_alloc_new (w : World) (x : Obj) : (w.alloc x).heap[w.heap.size]? = some x := by
  show (w.heap.push x)[w.heap.size]? = _
  simp
@[simp] theorem size_drewN (w : World) (n : Nat) : (w.drewN n).heap.size = w.heap.size := rfl

/-- A slice that reads as xs (size cells an element): nil, or at the head of a block of its own. Its block: 'Value.ownBlock'. -/
abbrev Own (w : World) (e : TypeId) (size : Nat) (v : Value) (n : Nat) (xs : List Value) : Prop := w.ownsRow 0 e size v n xs

theorem Own.fr {F : List Nat} {w w' : World} {e : TypeId} {size : Nat} {v : Value} {n : Nat} {xs : List Value} (h : Own w e size v n xs) (k : Fr F w w') (hd : Dis v.ownBlock.toList F) : Own w' e size v n xs := by
  refine ⟨h.1, ?_⟩
  rcases h.2 with hn | ⟨g, cap, cur, rfl, hb, hgg, rest⟩
  · exact .inl hn
  · exact .inr ⟨g, cap, cur, rfl, hb, k.get hgg (hd g (by simp [Value.ownBlock])), rest⟩
theorem Own.lt {w : World} {e : TypeId} {size : Nat} {v : Value} {n : Nat} {xs : List Value} (h : Own w e size v n xs) : Lt v.ownBlock.toList w := by
  intro b hb
  rcases h.2 with ⟨rfl, _⟩ | ⟨g, cap, cur, rfl, _, hgg, _⟩
  · simp [Value.ownBlock] at hb
  · simp [Value.ownBlock] at hb; subst hb; exact lt_of_block hgg
theorem Own.base {w : World} {e : TypeId} {size : Nat} {v : Value} {n : Nat} {xs : List Value} {B : Nat} (h : w.ownsRow B e size v n xs) : Own w e size v n xs := by
  refine ⟨h.1, ?_⟩
  rcases h.2 with hn | ⟨g, cap, cur, rfl, hb, r⟩
  · exact .inl hn
  · exact .inr ⟨g, cap, cur, rfl, Nat.zero_le _, r⟩
/-- What comes back is a slice in new memory that reads as xs; nothing that was there has turned. -/
def OwnRet (w : World) (e : TypeId) (size n : Nat) (xs : List Value) (en : Ending) (w' : World) : Prop := ∃ v, en = .returned v ∧ w'.ownsRow w.heap.size e size v n xs ∧ Fr [] w w'
theorem cell_fr {F : List Nat} {w w' : World} (h : Fr F w w') {b i : Nat} {v : Value} (hc : w.cell? ⟨b, i, none⟩ = some v) (hn : b ∉ F) : w'.cell? ⟨b, i, none⟩ = some v := by
  rw [World.cell?_of_block (w := w) (h.block b (World.block_lt_of_cell? w ⟨b, i, none⟩ hc) hn)]; exact hc
theorem Own.base_le {w : World} {e : TypeId} {size : Nat} {v : Value} {n : Nat} {xs : List Value} {B : Nat} (h : w.ownsRow B e size v n xs) : Ge B v.ownBlock.toList := by
  intro b hb
  rcases h.2 with ⟨rfl, _⟩ | ⟨g, cap, cur, rfl, hg, _⟩
  · simp [Value.ownBlock] at hb
  · simp [Value.ownBlock] at hb; subst hb; exact hg

/-- Behind an append onto a slice of the call's own. -/
theorem Fr.grownOwn {F : List Nat} {a w w' x : World} {e : TypeId} {size : Nat} {v : Value} {n : Nat} {xs : List Value} (h : Fr F a w) (hg : w.grownBy w' v.ownBlock) (ho : x.ownsRow a.heap.size e size v n xs) : Fr F a w' :=
  h.grown hg fun k hk => .inr (Own.base_le ho k (by rw [hk]; simp))
theorem ownFr {w w' : World} {e : TypeId} {size : Nat} {v : Value} {n : Nat} {xs : List Value} {B : Nat} {F : List Nat} (h : w.ownsRow B e size v n xs) (k : Fr F w w') (hF : ∀ b, b ∈ F → b < B) : w'.ownsRow B e size v n xs := by
  refine ⟨h.1, ?_⟩
  rcases h.2 with hn | ⟨g, cap, cur, rfl, hb, hgg, rest⟩
  · exact .inl hn
  · exact .inr ⟨g, cap, cur, rfl, hb, k.get hgg (fun hg => by have := hF g hg; omega), rest⟩
theorem ownNe {w : World} {e : TypeId} {size : Nat} {v : Value} {n : Nat} {xs : List Value} {B b : Nat} (h : w.ownsRow B e size v n xs) (hb : b < B) : some b ≠ v.ownBlock := by
  intro he
  have := Own.base_le h b (by rw [← he]; simp)
  omega
/-- '==' on strings, as the walk writes it. -/
theorem str_beq (a b : ByteArray) : (a.toList == b.toList) = decide (a = b) := by
  rw [ByteArray.toList_eq, ByteArray.toList_eq]
  by_cases h : a = b
  · simp [h]
  · have : ¬ a.data.toList = b.data.toList := fun e => h (by cases a; cases b; simp at e; simp [e])
    rw [decide_eq_false h]
    exact beq_eq_false_iff_ne.2 this
theorem str_eq {a b : ByteArray} (h : (a.toList == b.toList) = true) : a = b := by rw [str_beq] at h; exact of_decide_eq_true h
theorem str_ne {a b : ByteArray} (h : (a.toList == b.toList) = false) : a ≠ b := by rw [str_beq] at h; exact of_decide_eq_false h
theorem str_eq_t {a b : ByteArray} (h : a = b) : (a.toList == b.toList) = true := by rw [str_beq]; exact decide_eq_true h
theorem str_ne_f {a b : ByteArray} (h : a ≠ b) : (a.toList == b.toList) = false := by rw [str_beq]; exact decide_eq_false h
theorem drewN_setCell (w : World) (n : Nat) (a : Addr) (v : Value) : (w.drewN n).setCell a v = (w.setCell a v).drewN n := rfl
theorem drewN_alloc (w : World) (n : Nat) (o : Obj) : (w.drewN n).alloc o = (w.alloc o).drewN n := rfl
theorem drewN_one (w : World) : w.drew = w.drewN 1 := rfl

end Go.Proofs.YtphlancijlljcaaGreat
