/- The walks over package feed. -/
import Derived.Test.YtapfkpkomdmibaaProg
import Derived.Test.YtapfkpkomdmibaaChan
set_option linter.unusedVariables false
set_option linter.unusedSimpArgs false
namespace Go.Proofs.Ytapfkpkomdmibaa
open Go.RowKit Go.Conc
attribute [local go_sem ↓] Go.wp_at_zero Go.wp_at_succ

/-- An event, and when it came. -/
structure Ev where
  k : Int
  key : ByteArray
  n : Nat
def Ev.enc (e : Ev) : Value := .agg #[.int .i64 e.k, .string e.key, .int .i64 e.n]

/-- A feed at p as it lies: two channels, of each lane what was taken and not handed on, how many came, how many were lost. -/
def FeedRaw (w : World) (p c1 c2 cap1 cap2 : Nat) (h1 : Bool) (x1 : Ev) (b1 : List Ev) (h2 : Bool) (x2 : Ev) (b2 : List Ev) (n lost : Nat) : Prop :=
  p ≠ c1 ∧ p ≠ c2 ∧ c1 ≠ c2 ∧
  w.heap[p]? = some (.cells #[.chan (some c1), .int .i64 x1.k, .string x1.key, .int .i64 x1.n, .bool h1, .chan (some c2), .int .i64 x2.k, .string x2.key, .int .i64 x2.n, .bool h2, .int .i64 n, .int .i64 lost] 84 (0, 0)) ∧
  (∃ s r, w.heap[c1]? = some (.chan cap1 (b1.map Ev.enc).toArray false s r false)) ∧ (∃ s r, w.heap[c2]? = some (.chan cap2 (b2.map Ev.enc).toArray false s r false))

theorem setChan_fr {w : World} (c cap : Nat) (buf : Array Value) (cl : Bool) (s r : Nat) (tm : Bool) : Fr [c] w (w.setChan c cap buf cl s r tm) :=
  ⟨rfl, rfl, rfl, by simp [World.setChan], fun k _ hk => by simp at hk; simp only [World.setChan]; rw [Array.getElem?_setIfInBounds_ne (by omega)]⟩

theorem waits_room (p o c cap n : Nat) (buf : Array Value) (s r : Nat) (kind : Int) (key : ByteArray) (w : World)
    (cc : w.cell? ⟨p, o, none⟩ = some (.chan (some c))) (cn : w.cell? ⟨p, 10, none⟩ = some (.int .i64 n)) (fn : w.frozen? ⟨p, 10, none⟩ = false) (hc : w.heap[c]? = some (.chan cap buf false s r false)) (hpc : p ≠ c)
    (hroom : buf.size < cap) (hn : n ≤ 1000000000) :
    Calls Try.prog 51 #[.pointer (some ⟨p, 0, none⟩), .pointer (some ⟨p, o, none⟩), .int .i64 kind, .string key] w fun e w' => e = .returned (.bool true) ∧
      w' = (w.setChan c cap (buf.push (Ev.enc ⟨kind, key, n⟩)) false (s + 1) r false).setCell ⟨p, 10, none⟩ (.int .i64 (n + 1)) := by
  have hfr := setChan_fr (w := w) c cap (buf.push (Ev.enc ⟨kind, key, n⟩)) false (s + 1) r false
  have dn := cell_fr hfr cn (by simpa using hpc)
  have en : (w.setChan c cap (buf.push (Ev.enc ⟨kind, key, n⟩)) false (s + 1) r false).frozen? ⟨p, 10, none⟩ = false := by
    rw [World.frozen?_of_block (w := w) (hfr.block p (World.block_lt_of_cell? w _ cn) (by simpa using hpc))]; exact fn
  obtain ⟨w1, hw1⟩ : ∃ w1, w.setChan c cap (buf.push (Ev.enc ⟨kind, key, n⟩)) false (s + 1) r false = w1 := ⟨_, rfl⟩
  rw [hw1] at dn en
  have HW := Lib.hid hw1
  rw [hw1]
  clear hw1 hfr
  go_enter Try.func51, Try.ntmps51
  go_upto_region 3 with fail
  refine wp_region_comm (w' := w1) (v := .tuple #[goInt 0, .bool false]) (cases := #[scase c (Ev.enc ⟨kind, key, n⟩) (.agg #[.int .i64 0, .string ⟨#[]⟩, .int .i64 0])]) (blocking := false) (shape := .select) rfl (by simp [go_sem, execOp, scase, Act.eval, Ev.enc]) (fun fr cs es h => by rw [← HW.out]; exact step_lone_select_send_room h hc hroom) ?_
  go_wp2
  go_ret
  exact ⟨rfl, rfl⟩

theorem waits_full (p o c cap : Nat) (buf : Array Value) (s r : Nat) (kind : Int) (key : ByteArray) (n : Int) (w : World)
    (cc : w.cell? ⟨p, o, none⟩ = some (.chan (some c))) (cn : w.cell? ⟨p, 10, none⟩ = some (.int .i64 n)) (hc : w.heap[c]? = some (.chan cap buf false s r false)) (hfull : cap ≤ buf.size) :
    Calls Try.prog 51 #[.pointer (some ⟨p, 0, none⟩), .pointer (some ⟨p, o, none⟩), .int .i64 kind, .string key] w fun e w' => e = .returned (.bool false) ∧ w = w' := by
  go_enter Try.func51, Try.ntmps51
  go_upto_region 3 with fail
  refine wp_region_comm (w' := w) (v := .tuple #[goInt (-1), .bool false]) (cases := #[scase c (.agg #[.int .i64 kind, .string key, .int .i64 n]) (.agg #[.int .i64 0, .string ⟨#[]⟩, .int .i64 0])]) (blocking := false) (shape := .select) rfl (by simp [go_sem, execOp, scase, Act.eval]) (fun fr cs es h => step_lone_select_send_full h hc hfull) ?_
  go_wp2
  go_ret
  exact ⟨rfl, rfl⟩

theorem peek_has (p o : Nat) (w : World) (ch : w.cell? ⟨p, o + 4, none⟩ = some (.bool true)) :
    Calls Try.prog 53 #[.pointer (some ⟨p, o, none⟩)] w fun e w' => e = .returned (.bool true) ∧ w = w' := by
  go_enter Try.func53, Try.ntmps53
  go_wp2
  go_ret
  exact ⟨rfl, rfl⟩
theorem peek_empty (p o c cap : Nat) (s r : Nat) (w : World) (cc : w.cell? ⟨p, o, none⟩ = some (.chan (some c))) (ch : w.cell? ⟨p, o + 4, none⟩ = some (.bool false)) (hc : w.heap[c]? = some (.chan cap #[] false s r false)) :
    Calls Try.prog 53 #[.pointer (some ⟨p, o, none⟩)] w fun e w' => e = .returned (.bool false) ∧ w = w' := by
  go_enter Try.func53, Try.ntmps53
  go_upto_region 4 with fail
  refine wp_region_comm (w' := w) (v := .tuple #[goInt (-1), .bool false, .agg #[.int .i64 0, .string ⟨#[]⟩, .int .i64 0]]) (cases := #[rcase c (.agg #[.int .i64 0, .string ⟨#[]⟩, .int .i64 0])]) (blocking := false) (shape := .select) rfl (by simp [go_sem, execOp, rcase, Act.eval]) (fun fr cs es h => step_lone_select_default h hc) ?_
  go_wp2
  go_ret
  exact ⟨rfl, rfl⟩
theorem peek_ready (p o c cap : Nat) (x y1 y2 y3 : Value) (k : Int) (key : ByteArray) (n : Nat) (buf : List Value) (s r : Nat) (w : World) (cc : w.cell? ⟨p, o, none⟩ = some (.chan (some c))) (ch : w.cell? ⟨p, o + 4, none⟩ = some (.bool false))
    (cx1 : w.cell? ⟨p, o + 1, none⟩ = some y1) (cx2 : w.cell? ⟨p, o + 2, none⟩ = some y2) (cx3 : w.cell? ⟨p, o + 3, none⟩ = some y3) (hf : ∀ i, w.frozen? ⟨p, i, none⟩ = false)
    (hc : w.heap[c]? = some (.chan cap (Ev.enc ⟨k, key, n⟩ :: buf).toArray false s r false)) (hpc : p ≠ c) :
    Calls Try.prog 53 #[.pointer (some ⟨p, o, none⟩)] w fun e w' => e = .returned (.bool true) ∧
      w' = ((((w.setChan c cap buf.toArray false s (r + 1) false).setCell ⟨p, o + 1, none⟩ (.int .i64 k)).setCell ⟨p, o + 2, none⟩ (.string key)).setCell ⟨p, o + 3, none⟩ (.int .i64 n)).setCell ⟨p, o + 4, none⟩ (.bool true) := by
  have hfr := setChan_fr (w := w) c cap buf.toArray false s (r + 1) false
  have d1 := cell_fr hfr cx1 (by simpa using hpc)
  have d2 := cell_fr hfr cx2 (by simpa using hpc)
  have d3 := cell_fr hfr cx3 (by simpa using hpc)
  have d4 := cell_fr hfr ch (by simpa using hpc)
  have hf1 : ∀ i, (w.setChan c cap buf.toArray false s (r + 1) false).frozen? ⟨p, i, none⟩ = false := fun i => by
    rw [World.frozen?_of_block (w := w) (hfr.block p (World.block_lt_of_cell? w _ cc) (by simpa using hpc))]; exact hf i
  have e1 := hf1 (o + 1)
  have e2 := hf1 (o + 2)
  have e3 := hf1 (o + 3)
  have e4 := hf1 (o + 4)
  obtain ⟨w1, hw1⟩ : ∃ w1, w.setChan c cap buf.toArray false s (r + 1) false = w1 := ⟨_, rfl⟩
  rw [hw1] at d1 d2 d3 d4 e1 e2 e3 e4
  have HW := Lib.hid hw1
  rw [hw1]
  clear hw1 hfr hf1 hf
  go_enter Try.func53, Try.ntmps53
  go_upto_region 4 with fail
  refine wp_region_comm (w' := w1) (v := .tuple #[goInt 0, .bool true, Ev.enc ⟨k, key, n⟩]) (cases := #[rcase c (.agg #[.int .i64 0, .string ⟨#[]⟩, .int .i64 0])]) (blocking := false) (shape := .select) rfl (by simp [go_sem, execOp, rcase, Act.eval])
    (fun fr cs es h => by
      rw [← HW.out]
      have := step_lone_select_recv_buf h hc (by simp)
      simpa using this) ?_
  simp only [Ev.enc]
  go_wp2
  go_ret
  exact ⟨rfl, rfl⟩

def pkH (h : Bool) (b : List Ev) : Bool := h || !b.isEmpty
def pkX (h : Bool) (x : Ev) (b : List Ev) : Ev := if h then x else b.headD x
def pkR (h : Bool) (b : List Ev) : List Ev := if h then b else b.tail
/-- What a lane holds. -/
def lane (h : Bool) (x : Ev) (b : List Ev) : List Ev := if h then x :: b else b
theorem lane_pk (h : Bool) (x : Ev) (b : List Ev) : lane (pkH h b) (pkX h x b) (pkR h b) = lane h x b := by
  cases h <;> cases b <;> simp [lane, pkH, pkX, pkR]

section
variable {w : World} {p c1 c2 cap1 cap2 : Nat} {h1 : Bool} {x1 : Ev} {b1 : List Ev} {h2 : Bool} {x2 : Ev} {b2 : List Ev} {n lost : Nat}
theorem peek1 (h : FeedRaw w p c1 c2 cap1 cap2 h1 x1 b1 h2 x2 b2 n lost) : Calls Try.prog 53 #[.pointer (some ⟨p, 0, none⟩)] w fun e w' => e = .returned (.bool (pkH h1 b1)) ∧ FeedRaw w' p c1 c2 cap1 cap2 (pkH h1 b1) (pkX h1 x1 b1) (pkR h1 b1) h2 x2 b2 n lost ∧ Fr [p, c1] w w' := by
  have h0 := h
  obtain ⟨q1, q2, q3, hp, ⟨s1, r1, hc1⟩, ⟨s2, r2, hc2⟩⟩ := h
  have k := cell_of_block hp
  have f := free_of_block hp
  cases hh : h1 with
  | true =>
    refine (peek_has p 0 w (by rw [k]; simp [hh])).mono ?_
    rintro e w' ⟨rfl, rfl⟩
    refine ⟨rfl, ?_, Fr.refl _ _⟩
    simpa [pkH, pkX, pkR, hh] using h0
  | false =>
    cases hb : b1 with
    | nil =>
      refine (peek_empty p 0 c1 _ _ _ w (by rw [k]; simp) (by rw [k]; simp [hh]) (by rw [hc1, hb]; rfl)).mono ?_
      rintro e w' ⟨rfl, rfl⟩
      refine ⟨rfl, ?_, Fr.refl _ _⟩
      simpa [pkH, pkX, pkR, hh, hb] using h0
    | cons y t =>
      refine (peek_ready p 0 c1 _ (.bool false) _ _ _ y.k y.key y.n (t.map Ev.enc) _ _ w (by rw [k]; simp) (by rw [k]; simp [hh]) (by rw [k]; rfl) (by rw [k]; rfl) (by rw [k]; rfl) f (by rw [hc1, hb]; rfl) (by assumption)).mono ?_
      rintro e w' ⟨rfl, rfl⟩
      have hfr := setChan_fr (w := w) c1 cap1 (t.map Ev.enc).toArray false s1 (r1 + 1) false
      have g1 := hfr.get hp (by simp; omega)
      refine ⟨rfl, ⟨q1, q2, q3, ?_, ?_, ?_⟩, ?_⟩
      · rw [block_set_same (block_set_same (block_set_same (block_set_same g1 _ _) _ _) _ _) _ _]
        simp [pkH, pkX]
      · have := heap_setChan w c1 cap1 (t.map Ev.enc).toArray false s1 (r1 + 1) false (lt_of_block hc1)
        exact ⟨_, _, block_set_other (block_set_other (block_set_other (block_set_other this (by simpa using q1) _) (by simpa using q1) _) (by simpa using q1) _) (by simpa using q1) _⟩
      · have := hfr.get hc2 (by simpa using Ne.symm q3)
        exact ⟨_, _, block_set_other (block_set_other (block_set_other (block_set_other this (by simpa using q2) _) (by simpa using q2) _) (by simpa using q2) _) (by simpa using q2) _⟩
      · exact (((((hfr.mono (fun b hb _ => by simp at hb ⊢; exact .inr hb)).setCell (by simp) _).setCell (by simp) _).setCell (by simp) _).setCell (by simp) _)
theorem peek2 (h : FeedRaw w p c1 c2 cap1 cap2 h1 x1 b1 h2 x2 b2 n lost) : Calls Try.prog 53 #[.pointer (some ⟨p, 5, none⟩)] w fun e w' => e = .returned (.bool (pkH h2 b2)) ∧ FeedRaw w' p c1 c2 cap1 cap2 h1 x1 b1 (pkH h2 b2) (pkX h2 x2 b2) (pkR h2 b2) n lost ∧ Fr [p, c2] w w' := by
  have h0 := h
  obtain ⟨q1, q2, q3, hp, ⟨s1, r1, hc1⟩, ⟨s2, r2, hc2⟩⟩ := h
  have k := cell_of_block hp
  have f := free_of_block hp
  cases hh : h2 with
  | true =>
    refine (peek_has p 5 w (by rw [k]; simp [hh])).mono ?_
    rintro e w' ⟨rfl, rfl⟩
    refine ⟨rfl, ?_, Fr.refl _ _⟩
    simpa [pkH, pkX, pkR, hh] using h0
  | false =>
    cases hb : b2 with
    | nil =>
      refine (peek_empty p 5 c2 _ _ _ w (by rw [k]; simp) (by rw [k]; simp [hh]) (by rw [hc2, hb]; rfl)).mono ?_
      rintro e w' ⟨rfl, rfl⟩
      refine ⟨rfl, ?_, Fr.refl _ _⟩
      simpa [pkH, pkX, pkR, hh, hb] using h0
    | cons y t =>
      refine (peek_ready p 5 c2 _ (.bool false) _ _ _ y.k y.key y.n (t.map Ev.enc) _ _ w (by rw [k]; simp) (by rw [k]; simp [hh]) (by rw [k]; rfl) (by rw [k]; rfl) (by rw [k]; rfl) f (by rw [hc2, hb]; rfl) (by assumption)).mono ?_
      rintro e w' ⟨rfl, rfl⟩
      have hfr := setChan_fr (w := w) c2 cap2 (t.map Ev.enc).toArray false s2 (r2 + 1) false
      have g1 := hfr.get hp (by simp; omega)
      refine ⟨rfl, ⟨q1, q2, q3, ?_, ?_, ?_⟩, ?_⟩
      · rw [block_set_same (block_set_same (block_set_same (block_set_same g1 _ _) _ _) _ _) _ _]
        simp [pkH, pkX]
      · have := hfr.get hc1 (by simpa using q3)
        exact ⟨_, _, block_set_other (block_set_other (block_set_other (block_set_other this (by simpa using q1) _) (by simpa using q1) _) (by simpa using q1) _) (by simpa using q1) _⟩
      · have := heap_setChan w c2 cap2 (t.map Ev.enc).toArray false s2 (r2 + 1) false (lt_of_block hc2)
        exact ⟨_, _, block_set_other (block_set_other (block_set_other (block_set_other this (by simpa using q2) _) (by simpa using q2) _) (by simpa using q2) _) (by simpa using q2) _⟩
      · exact (((((hfr.mono (fun b hb _ => by simp at hb ⊢; exact .inr hb)).setCell (by simp) _).setCell (by simp) _).setCell (by simp) _).setCell (by simp) _)
end
end Go.Proofs.Ytapfkpkomdmibaa
