/- Slices that one holder owns, from whatever place in their block on: what they read as, append onto them, pieces of them. Over any program. -/
import Derived.Test.YtphlancijlljcaaGreatBase
set_option linter.unusedVariables false
set_option linter.unusedSimpArgs false
namespace Go.Proofs.YtphlancijlljcaaGreat
open Go.RowKit

/-- v reads as n elements of type e, each of so many cells: xs. -/
def Sl (w : World) (e : TypeId) (size : Nat) (v : Value) (n : Nat) (xs : List Value) : Prop :=
  xs.length = n * size ∧ ((v = .slice none 0 0 ∧ n = 0) ∨
    ∃ g off cap cur, v = .slice (some ⟨g, off, none⟩) n cap ∧ w.heap[g]? = some (.cells cur e (0, 0)) ∧ n ≤ cap ∧ cap ≤ maxLen ∧ off + cap * size ≤ cur.size ∧ (cur.toList.drop off).take (n * size) = xs)

section
variable {w : World} {e : TypeId} {size : Nat} {v : Value} {n : Nat} {xs : List Value}
theorem Sl.nil (w : World) (e : TypeId) (size : Nat) : Sl w e size (.slice none 0 0) 0 [] := ⟨by simp, .inl ⟨rfl, rfl⟩⟩
theorem Sl.form (h : Sl w e size v n xs) : ∃ a c, v = .slice a n c := by
  rcases h.2 with ⟨rfl, rfl⟩ | ⟨g, off, cap, cur, rfl, _⟩
  · exact ⟨_, _, rfl⟩
  · exact ⟨_, _, rfl⟩
theorem Sl.fr {F : List Nat} {w' : World} (h : Sl w e size v n xs) (k : Fr F w w') (hd : Dis v.ownBlock.toList F) : Sl w' e size v n xs := by
  refine ⟨h.1, ?_⟩
  rcases h.2 with hn | ⟨g, off, cap, cur, rfl, hgg, rest⟩
  · exact .inl hn
  · exact .inr ⟨g, off, cap, cur, rfl, k.get hgg (hd g (by simp [Value.ownBlock])), rest⟩
theorem Sl.lt (h : Sl w e size v n xs) : Lt v.ownBlock.toList w := by
  intro b hb
  rcases h.2 with ⟨rfl, _⟩ | ⟨g, off, cap, cur, rfl, hgg, _⟩
  · simp [Value.ownBlock] at hb
  · simp [Value.ownBlock] at hb; subst hb; exact lt_of_block hgg
theorem Sl.ofOwn {B : Nat} (h : w.ownsRow B e size v n xs) : Sl w e size v n xs := by
  refine ⟨h.1, ?_⟩
  rcases h.2 with hn | ⟨g, cap, cur, rfl, hb, hgg, h1, h2, h3, h4⟩
  · exact .inl hn
  · exact .inr ⟨g, 0, cap, cur, rfl, hgg, h1, h2, by omega, by simpa using h4⟩
theorem Sl.cell {g off c : Nat} (h : Sl w e size (.slice (some ⟨g, off, none⟩) n c) n xs) {j : Nat} {u : Value} (hu : xs[j]? = some u) : w.cell? ⟨g, off + j, none⟩ = some u := by
  rcases h.2 with ⟨h1, _⟩ | ⟨g', off', cap, cur, h1, hgg, _, _, _, ht⟩
  · simp at h1
  · simp at h1
    obtain ⟨⟨rfl, rfl⟩, rfl⟩ := h1
    rw [cell_of_block hgg, ← Array.getElem?_toList]
    rw [← ht] at hu
    rw [List.getElem?_take] at hu
    split at hu
    · rw [List.getElem?_drop] at hu; exact hu
    · cases hu
theorem Sl.pos (h : Sl w e size v n xs) (hn : 0 < n) : ∃ g off c, v = .slice (some ⟨g, off, none⟩) n c ∧ g < w.heap.size := by
  rcases h.2 with ⟨_, h0⟩ | ⟨g, off, cap, cur, rfl, hgg, _⟩
  · omega
  · exact ⟨g, off, cap, rfl, lt_of_block hgg⟩
theorem Sl.built (w : World) (cur : Array Value) (n : Nat) (hs : cur.size = n * size) (hm : n ≤ maxLen) : Sl (w.alloc (.cells cur e)) e size (.slice (some ⟨w.heap.size, 0, none⟩) n n) n cur.toList := by
  refine ⟨by simpa using hs, .inr ⟨w.heap.size, 0, n, cur, rfl, block_alloc_new _ _, Nat.le_refl _, hm, by omega, ?_⟩⟩
  rw [List.drop_zero, List.take_of_length_le (by simp; omega)]
theorem addr_add (g off j : Nat) : (⟨g, off, none⟩ : Addr).add j = ⟨g, off + j, none⟩ := by
  unfold Addr.add; split <;> simp_all
theorem Sl.src {P : Program} {tx e' : TypeId} (hk : P.underlying tx = some (.slice e')) (h : Sl w e size v n xs) (h1 : ∀ u ∈ xs, u.oneCell' = true) : Src P size tx v n xs w := by
  rcases h.2 with ⟨rfl, rfl⟩ | ⟨g, off, cap, cur, rfl, hgg, _, _, _, ht⟩
  · have hx : xs = [] := List.eq_nil_of_length_eq_zero (by simpa using h.1)
    subst hx
    exact Src.ofNil w hk 0
  · exact Src.ofSlice w hk _ _ _ xs h.1 (fun j u hu => by rw [addr_add]; exact h.cell hu) h1

/-- One element that has just been laid into a block of its own. -/
theorem Src.built {P : Program} {size : Nat} {tx e' : TypeId} (hk : P.underlying tx = some (.slice e')) (W : World) (cs : List Value) (T : TypeId) (g : Nat) (hg : g = W.heap.size) (hl : cs.length = size) (h1 : ∀ u ∈ cs, u.oneCell' = true) :
    Src P size tx (.slice (some ⟨g, 0, none⟩) 1 1) 1 cs (W.alloc (.cells cs.toArray T)) := by
  subst hg
  exact Src.ofSlice _ hk _ 1 1 cs (by omega) (by simpa using World.news_of_block (cs := cs.toArray) (heap_alloc_new W _)) h1
theorem setCells_block {b : Nat} {T : TypeId} {z : Nat × Nat} : ∀ (vs : List Value) (o : Nat) (cur : Array Value) (w : World), w.heap[b]? = .some (.cells cur T z) → o + vs.length ≤ cur.size →
    (w.setCells b o vs).heap[b]? = .some (.cells (cur.toList.take o ++ vs ++ cur.toList.drop (o + vs.length)).toArray T z)
  | [], o, cur, w, h, _ => by simp [World.setCells, h]
  | v :: r, o, cur, w, h, hl => by
    simp only [List.length_cons] at hl
    have h2 := setCells_block r (o + 1) (cur.setIfInBounds o v) (w.setCell ⟨b, o, none⟩ v) (block_set_same h o v) (by simp; omega)
    simp only [World.setCells]
    rw [h2]
    congr 2
    congr 1
    apply List.ext_getElem?
    intro i
    simp only [Array.toList_setIfInBounds, List.getElem?_append, List.length_append, List.length_take, List.length_set, Array.length_toList, List.getElem?_take, List.getElem?_drop, List.getElem?_set, List.length_cons]
    have e1 : min (o + 1) cur.size = o + 1 := by omega
    have e2 : min o cur.size = o := by omega
    rw [e1, e2]
    by_cases c1 : i < o
    · simp [c1, show i < o + 1 by omega, show ¬ o = i by omega, show i < o + 1 + r.length by omega, show i < o + (r.length + 1) by omega]
    · by_cases c2 : i = o
      · subst c2
        simp [show i < i + 1 + r.length by omega, show i < cur.size by omega]
      · by_cases c3 : i < o + 1 + r.length
        · have : i - o = (i - (o + 1)) + 1 := by omega
          simp [c1, c3, show ¬ i < o + 1 by omega, show i < o + (r.length + 1) by omega, this]
        · simp [c3, show ¬ i < o + (r.length + 1) by omega, show ¬ o = o + 1 + r.length + (i - (o + 1 + r.length)) by omega]
          congr 1
          omega
theorem setCells_fr (b : Nat) : ∀ (vs : List Value) (o : Nat) (w : World), Fr [b] w (w.setCells b o vs)
  | [], _, w => Fr.refl _ _
  | v :: r, o, w => ((Fr.refl [b] w).setCell (p := ⟨b, o, none⟩) (by simp) v).same (setCells_fr b r (o + 1) _)

/-- append, both arms, whatever is appended. -/
theorem run_app {P : Program} (w : World) {t tx e : TypeId} (ty : TypeId) {i : TypeInfo} {z : Value} {size bytes : Nat} (ht : P.underlying t = .some (.slice e)) (hi : P.info? e = .some i) (hz : i.zero = .some z)
    (hsize : i.size = size) (hby : i.bytes = bytes) (hzs : z.cells.size = size) {v : Value} {n : Nat} {xs : List Value} (hv : Sl w e size v n xs) (h1 : ∀ u ∈ xs, u.oneCell' = true)
    {x : Value} {m : Nat} {news : List Value} (hs : Src P size tx x m news w) (h63 : n + m ≤ maxLen) (hbytes : (n + m) * bytes ≤ 140737488355328) :
    ∃ a c w', (Builtin.append_ #[t, tx] ty #[v, x]).run P w = .ok (.slice a (n + m) c) w' ∧ Sl w' e size (.slice a (n + m) c) (n + m) (xs ++ news) ∧ Fr v.ownBlock.toList w w' ∧
      ((Value.slice a (n + m) c).ownBlock = v.ownBlock ∨ (Value.slice a (n + m) c).ownBlock = .some w.heap.size) := by
  subst hsize
  subst hby
  have hsmall : n + m ≤ 9223372036854775807 := by simp only [maxLen] at h63; omega
  have hlen : (xs ++ news).length = (n + m) * i.size := by rw [List.length_append, hv.1, hs.newsLen, Nat.add_mul]
  have grown : ∀ (old : Nat), old < n + m →
      Sl (w.drew.alloc (.cells ((xs ++ news).toArray ++ Builtin.zeroCells z.cells (grownCap w (n + m) old e - (n + m))) e)) e i.size
        (.slice (.some ⟨w.heap.size, 0, none⟩) (n + m) (grownCap w (n + m) old e)) (n + m) (xs ++ news) := by
    intro old ho
    have hge := grownCap_ge w (n + m) old e
    have hcm : grownCap w (n + m) old e ≤ maxLen := grownCap_le_maxLen w (n + m) old e h63
    refine ⟨hlen, .inr ⟨w.heap.size, 0, _, _, rfl, block_alloc_new w.drew _, hge, hcm, ?_, ?_⟩⟩
    · simp only [Array.size_append, List.size_toArray, size_zeroCells, hzs, hlen, ← Nat.add_mul, Nat.zero_add]
      exact Nat.le_of_eq (congrArg (· * i.size) (by omega))
    · simp only [Array.toList_append, List.drop_zero]
      rw [← hlen]
      exact List.take_left
  have hfit : ∀ old, old < n + m → Builtin.nextslicecap (n + m) old * i.bytes ≤ 281474976710656 := fun old ho => growslice_fits ho hbytes
  rcases hv.2 with ⟨rfl, rfl⟩ | ⟨g, off, cap, cur, rfl, hg, hnc, hcm, hcs, htake⟩
  · have hx : xs = [] := List.eq_nil_of_length_eq_zero (by simpa using hv.1)
    subst hx
    by_cases hm : m = 0
    · subst hm
      have hn : news = [] := List.eq_nil_of_length_eq_zero (by simpa using hs.newsLen)
      subst hn
      refine ⟨none, 0, w, ?_, Sl.nil w e i.size, Fr.refl _ _, .inl rfl⟩
      rcases hs.kind with ⟨e', hk⟩ | hk <;> simp [Builtin.append_, run_underlying ht, run_underlying hk, sizeOf, typeInfo, hi, hs.len, hs.cells]
    · have hr := run_append_grow_src (P := P) w t tx ty e i z ht hi hz none 0 0 [] (by exact run_firstCells_none w.drew i.size 0 0 0) x m news hs (by omega) (by omega) (by have := hfit 0 (by omega); simpa using this)
      have hgr := grown 0 (by omega)
      simp only [Nat.zero_add, List.nil_append] at hgr hr ⊢
      exact ⟨_, _, _, hr, hgr, (Fr.refl _ w).drew.alloc _, .inr rfl⟩
  · by_cases hroom : n + m ≤ cap
    · have hmul : (n + m) * i.size ≤ cap * i.size := Nat.mul_le_mul_right _ hroom
      have hnl := hs.newsLen
      have hfit2 : off + n * i.size + news.length ≤ cur.size := by rw [hnl]; rw [Nat.add_mul] at hmul; omega
      have hr := run_append_room_src (P := P) w t tx ty e i ht hi g off n cap x m news hs hroom
        (fun j hj => by rw [cell_of_block hg]; simp [show off + n * i.size + j < cur.size by omega]) (fun j hj => free_of_block hg _)
      have hb := setCells_block news (off + n * i.size) cur w hg hfit2
      refine ⟨_, _, _, hr, ⟨hlen, .inr ⟨g, off, cap, _, rfl, hb, hroom, hcm, ?_, ?_⟩⟩, (setCells_fr g news _ w).mono (fun x hx _ => by simpa [Value.ownBlock] using hx), .inl rfl⟩
      · simp only [List.size_toArray, List.length_append, List.length_take, List.length_drop, Array.length_toList]
        omega
      · have h5 : (cur.toList.take (off + n * i.size)).drop off = xs := by
          rw [← htake, List.drop_take]; congr 1; omega
        have h6 : off ≤ (cur.toList.take (off + n * i.size)).length := by simp; omega
        rw [List.append_assoc, List.drop_append_of_le_length h6, h5, ← List.append_assoc, ← hlen]
        exact List.take_left
    · have hr := run_append_grow_src (P := P) w t tx ty e i z ht hi hz (.some ⟨g, off, none⟩) n cap xs
        (by
          have := run_firstCells_some (P := P) w.drew i.size n ⟨g, off, none⟩ n cap xs hv.1 (fun j u hu => by rw [addr_add]; exact hv.cell hu)
          exact this)
        x m news hs (by omega) (by omega) (hfit cap (by omega))
      exact ⟨_, _, _, hr, grown cap (by omega), (Fr.refl _ w).drew.alloc _, .inr rfl⟩

/-- At the list of a plain region's operations. -/
theorem wpList_app {P : Program} {w : World} {ops : Array Oper} {rest : List Oper} {o : Oper} {a : Act} {Q : Exit → Act → World → Prop} (hgd : o.guard = none) (s x : Operand) (t tx : TypeId)
    (ho : o.op = .call { callee := .builtin .append, args := #[s, x], argTypes := #[t, tx] })
    {e : TypeId} {i : TypeInfo} {z : Value} {size bytes : Nat} (ht : P.underlying t = .some (.slice e)) (hi : P.info? e = .some i) (hz : i.zero = .some z)
    (hsize : i.size = size) (hby : i.bytes = bytes) (hzs : z.cells.size = size) (v vx : Value) (n m : Nat) (xs news : List Value) (hvs : a.eval s = v) (hvx : a.eval x = vx) (hv : Sl w e size v n xs) (h1 : ∀ u ∈ xs, u.oneCell' = true)
    (hs : Src P size tx vx m news w) (h63 : n + m ≤ maxLen) (hbytes : (n + m) * bytes ≤ 140737488355328) (H : Nat) (hH : w.heap.size = H)
    (h : ∀ b c w', Sl w' e size (.slice b (n + m) c) (n + m) (xs ++ news) → Fr v.ownBlock.toList w w' → ((Value.slice b (n + m) c).ownBlock = v.ownBlock ∨ (Value.slice b (n + m) c).ownBlock = .some H) → wpList P ops Q rest (a.put o.dst (.slice b (n + m) c)) w') :
    wpList P ops Q (o :: rest) a w := by
  refine wpList_plain hgd fun K hK => ?_
  obtain ⟨b, c, w', hr, h2, h3, h4⟩ := run_app (P := P) w o.type ht hi hz hsize hby hzs hv h1 hs h63 hbytes
  unfold Oper.wp execOp
  simp only [ho, resolve, invoke, builtin, Sem.run_bind, Sem.run_pure, Result.andThen_ok, List.map_toArray, List.map_cons, List.map_nil, hvs, hvx, hr]
  subst hH
  exact hK _ _ (h b c w' h2 h3 h4)

/-- At a step of a region that draws its order. -/
theorem step_app {P : Program} {w : World} {ops : Array Oper} {o : Oper} {a : Act} {K : Act → World → Prop} {Q : Exit → Act → World → Prop} {E : Prop} (hgd : o.guard = none) (s x : Operand) (t tx : TypeId)
    (ho : o.op = .call { callee := .builtin .append, args := #[s, x], argTypes := #[t, tx] })
    {e : TypeId} {i : TypeInfo} {z : Value} {size bytes : Nat} (ht : P.underlying t = .some (.slice e)) (hi : P.info? e = .some i) (hz : i.zero = .some z)
    (hsize : i.size = size) (hby : i.bytes = bytes) (hzs : z.cells.size = size) (v vx : Value) (n m : Nat) (xs news : List Value) (hvs : a.eval s = v) (hvx : a.eval x = vx) (hv : Sl w e size v n xs) (h1 : ∀ u ∈ xs, u.oneCell' = true)
    (hs : Src P size tx vx m news w) (h63 : n + m ≤ maxLen) (hbytes : (n + m) * bytes ≤ 140737488355328) (H : Nat) (hH : w.heap.size = H)
    (h : ∀ b c w', Sl w' e size (.slice b (n + m) c) (n + m) (xs ++ news) → Fr v.ownBlock.toList w w' → ((Value.slice b (n + m) c).ownBlock = v.ownBlock ∨ (Value.slice b (n + m) c).ownBlock = .some H) → K (a.put o.dst (.slice b (n + m) c)) w') :
    if Region.wanted o (yielded ops a.tmps) = true then Oper.wp P o a w K Q else E := by
  have hw : Region.wanted o (yielded ops a.tmps) = true := by simp [Region.wanted, hgd]
  rw [if_pos hw]
  obtain ⟨b, c, w', hr, h2, h3, h4⟩ := run_app (P := P) w o.type ht hi hz hsize hby hzs hv h1 hs h63 hbytes
  unfold Oper.wp execOp
  simp only [ho, resolve, invoke, builtin, Sem.run_bind, Sem.run_pure, Result.andThen_ok, List.map_toArray, List.map_cons, List.map_nil, hvs, hvx, hr]
  subst hH
  exact h b c w' h2 h3 h4

/-- A piece of it. -/
theorem Sl.slice {a : Option Addr} {c lo hi : Nat} (h : Sl w e size (.slice a n c) n xs) (h1 : lo ≤ hi) (h2 : hi ≤ n) :
    Sl w e size (.slice (if c = lo then a else a.map (·.add (lo * size))) (hi - lo) (c - lo)) (hi - lo) ((xs.drop (lo * size)).take ((hi - lo) * size)) := by
  have hm1 : (hi - lo) * size + lo * size ≤ n * size := by rw [← Nat.add_mul]; exact Nat.mul_le_mul_right _ (by omega)
  refine ⟨by rw [List.length_take, List.length_drop, h.1]; omega, ?_⟩
  rcases h.2 with ⟨hv, rfl⟩ | ⟨g, off, cap, cur, hv, hgg, hnc, hcm, hcs, ht⟩
  · simp at hv
    obtain ⟨rfl, rfl⟩ := hv
    left
    have : lo = 0 := by omega
    have : hi = 0 := by omega
    subst_vars
    simp
  · simp at hv
    obtain ⟨rfl, rfl⟩ := hv
    right
    by_cases hc : c = lo
    · subst hc
      have e1 : hi = c := by omega
      subst e1
      refine ⟨g, off, 0, cur, by simp, hgg, by omega, by omega, by omega, ?_⟩
      simp
    · refine ⟨g, off + lo * size, c - lo, cur, by simp [hc, addr_add], hgg, by omega, by omega, ?_, ?_⟩
      · have : lo * size + (c - lo) * size = c * size := by rw [← Nat.add_mul]; congr 1; omega
        omega
      · rw [← ht, List.drop_take, List.take_take, List.drop_drop]
        congr 1
        omega

/-- One of its cells is written. -/
theorem Sl.set {g off c : Nat} (h : Sl w e size (.slice (some ⟨g, off, none⟩) n c) n xs) (j : Nat) (u : Value) : Sl (w.setCell ⟨g, off + j, none⟩ u) e size (.slice (some ⟨g, off, none⟩) n c) n (xs.set j u) := by
  refine ⟨by rw [List.length_set]; exact h.1, ?_⟩
  rcases h.2 with ⟨h1, _⟩ | ⟨g', off', cap, cur, h1, hgg, a1, a2, a3, ht⟩
  · simp at h1
  · simp at h1
    obtain ⟨⟨rfl, rfl⟩, rfl⟩ := h1
    refine .inr ⟨g, off, c, _, rfl, block_set_same hgg _ _, a1, a2, by simpa using a3, ?_⟩
    rw [Array.toList_setIfInBounds, List.drop_set, if_neg (by omega), show off + j - off = j by omega, ← ht, List.take_set]
theorem run_slice_from {P : Program} {t e' : TypeId} {i : TypeInfo} (ht : P.underlying t = .some (.slice e')) (hi : P.info? e' = .some i) (a : Option Addr) (n c : Nat) (lo : Nat) (h : lo ≤ n) (w : World) :
    (Instr.slice t (.slice a n c) (.some (.int .i64 lo)) none none).run P w = .ok (.slice (if c = lo then a else a.map (·.add (lo * i.size))) (n - lo) (c - lo)) w := by
  simp [Instr.slice, run_underlying ht, Instr.sliceBounds, Instr.sliceBound, asIntOf, sizeOf, typeInfo, hi, h]
theorem run_slice_upto {P : Program} {t e' : TypeId} {i : TypeInfo} (ht : P.underlying t = .some (.slice e')) (hi : P.info? e' = .some i) (a : Option Addr) (n c : Nat) (up : Nat) (h : up ≤ c) (w : World) :
    (Instr.slice t (.slice a n c) none (.some (.int .i64 up)) none).run P w = .ok (.slice (if c = 0 then a else a.map (·.add (0 * i.size))) (up - 0) (c - 0)) w := by
  simp [Instr.slice, run_underlying ht, Instr.sliceBounds, Instr.sliceBound, asIntOf, sizeOf, typeInfo, hi, h]
end
/-- Lists of values of one length each, one behind the other: the i-th value of the k-th. -/
theorem flat_get {α : Type} {f : α → List Value} {s : Nat} (hf : ∀ a, (f a).length = s) : ∀ (l : List α) (k : Nat) (hk : k < l.length) (i : Nat), i < s → (l.flatMap f)[k * s + i]? = (f l[k])[i]?
  | [], k, hk, _, _ => by simp at hk
  | a :: l, 0, _, i, hi => by simp [List.flatMap_cons, List.getElem?_append_left, hf, hi]
  | a :: l, k + 1, hk, i, hi => by
    have e1 : (k + 1) * s + i = s + (k * s + i) := by rw [Nat.add_mul]; omega
    rw [List.flatMap_cons, e1, List.getElem?_append_right (by rw [hf]; omega), hf, Nat.add_sub_cancel_left]
    simpa using flat_get hf l k (by simpa using hk) i hi
theorem flat_len {α : Type} {f : α → List Value} {s : Nat} (hf : ∀ a, (f a).length = s) (l : List α) : (l.flatMap f).length = l.length * s := by
  induction l with
  | nil => simp
  | cons a l ih => rw [List.flatMap_cons, List.length_append, ih, hf, List.length_cons, Nat.add_mul]; omega

/-- A slice that is only read: n elements of so many cells; they read xs. -/
def Rd (w : World) (size : Nat) (v : Value) (n : Nat) (xs : List Value) : Prop :=
  xs.length = n * size ∧ ∃ a c, v = .slice a n c ∧ (n = 0 ∨ ∃ b o, a = some ⟨b, o, none⟩ ∧ ∀ j u, xs[j]? = some u → w.cell? ⟨b, o + j, none⟩ = some u)
theorem Rd.fr {w w' : World} {size : Nat} {v : Value} {n : Nat} {xs : List Value} {F : List Nat} (h : Rd w size v n xs) (k : Fr F w w') (hF : Ge w.heap.size F) : Rd w' size v n xs := by
  obtain ⟨h1, a, c, rfl, h2⟩ := h
  refine ⟨h1, a, c, rfl, ?_⟩
  rcases h2 with h2 | ⟨b, o, rfl, h2⟩
  · exact .inl h2
  · refine .inr ⟨b, o, rfl, fun j u hj => ?_⟩
    have hc := h2 j u hj
    exact cell_fr k hc (fun hb => by have := hF b hb; have := World.block_lt_of_cell? w _ hc; simp at this; omega)
theorem Rd.pos {w : World} {size : Nat} {v : Value} {n : Nat} {xs : List Value} (h : Rd w size v n xs) (hn : 0 < n) : ∃ b o c, v = .slice (some ⟨b, o, none⟩) n c ∧ ∀ j u, xs[j]? = some u → w.cell? ⟨b, o + j, none⟩ = some u := by
  obtain ⟨h1, a, c, rfl, h2⟩ := h
  rcases h2 with h2 | ⟨b, o, rfl, h2⟩
  · omega
  · exact ⟨b, o, c, rfl, h2⟩
end Go.Proofs.YtphlancijlljcaaGreat
