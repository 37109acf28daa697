/- A feed as a row of events that wait; first and Drain. -/
import Derived.Test.YtapfkpkomdmibaaFeed2
import Derived.Deep.LoopGhost
set_option linter.unusedVariables false
set_option linter.unusedSimpArgs false
namespace Go.Proofs.Ytapfkpkomdmibaa
open Go.RowKit Go.Conc
attribute [local go_sem ↓] Go.wp_at_zero Go.wp_at_succ

def rd (e : Ev) : Bool := e.k == 1
def nrd (e : Ev) : Bool := !(e.k == 1)
def evp (e : Ev) : Int × ByteArray := (e.k, e.key)
def encE (e : Int × ByteArray) : List Value := [.int .i64 e.1, .string e.2]
def encEs (E : List (Int × ByteArray)) : List Value := E.flatMap encE
theorem encEs_len (E : List (Int × ByteArray)) : (encEs E).length = E.length * 2 := by
  induction E with
  | nil => rfl
  | cons e E ih => simp only [encEs, List.flatMap_cons, List.length_append, List.length_cons] at ih ⊢; rw [ih]; simp [encE]; omega
theorem encEs_snoc (E : List (Int × ByteArray)) (e : Int × ByteArray) : encEs (E ++ [e]) = encEs E ++ [.int .i64 e.1, .string e.2] := by simp [encEs, encE]
theorem oneE (E : List (Int × ByteArray)) : ∀ u ∈ encEs E, u.oneCell' = true := by
  intro u hu
  obtain ⟨e, _, he⟩ := List.mem_flatMap.1 hu
  simp [encE] at he
  rcases he with rfl | rfl <;> rfl
theorem infoE : (Try.prog.info? 58).map (fun i => (i.zero, i.size, i.bytes)) = some (some (.agg #[.int .i64 0, .string ⟨#[]⟩]), 2, 24) := by kernel_rfl
def Srt (L : List Ev) (n : Nat) : Prop := L.Pairwise (fun a b => a.n < b.n) ∧ ∀ e ∈ L, e.n < n

/-- A feed that is being drained: what still waits. -/
def FeedDr (w : World) (p : Nat) (F : List Nat) (cap1 cap2 : Nat) (L : List Ev) (n lost : Nat) : Prop :=
  ∃ (c1 c2 : Nat) (h1 : Bool) (x1 : Ev) (b1 : List Ev) (h2 : Bool) (x2 : Ev) (b2 : List Ev), F = [p, c1, c2] ∧ FeedRaw w p c1 c2 cap1 cap2 h1 x1 b1 h2 x2 b2 n lost ∧ lane h1 x1 b1 = L.filter rd ∧ lane h2 x2 b2 = L.filter nrd ∧ Srt L n
/-- A feed: the events that wait, in order; how many events came in all; how many reads were lost. -/
def FeedAt (w : World) (p : Nat) (F : List Nat) (cap1 cap2 : Nat) (E : List (Int × ByteArray)) (n lost : Nat) : Prop :=
  ∃ (c1 c2 : Nat) (x1 x2 : Ev) (L : List Ev), F = [p, c1, c2] ∧ FeedRaw w p c1 c2 cap1 cap2 false x1 (L.filter rd) false x2 (L.filter nrd) n lost ∧ Srt L n ∧ L.map evp = E
theorem FeedAt.fr {w w' : World} {p cap1 cap2 n lost : Nat} {F G : List Nat} {E : List (Int × ByteArray)} (h : FeedAt w p F cap1 cap2 E n lost) (k : Fr G w w') (hd : Dis F G) : FeedAt w' p F cap1 cap2 E n lost := by
  obtain ⟨c1, c2, x1, x2, L, rfl, h1, h2⟩ := h
  exact ⟨c1, c2, x1, x2, L, rfl, h1.fr k hd, h2⟩
theorem FeedAt.lt {w : World} {p cap1 cap2 n lost : Nat} {F : List Nat} {E : List (Int × ByteArray)} (h : FeedAt w p F cap1 cap2 E n lost) : Lt F w := by
  obtain ⟨c1, c2, x1, x2, L, rfl, h1, h2⟩ := h
  exact h1.lt
theorem FeedDr.fr {w w' : World} {p cap1 cap2 n lost : Nat} {F G : List Nat} {L : List Ev} (h : FeedDr w p F cap1 cap2 L n lost) (k : Fr G w w') (hd : Dis F G) : FeedDr w' p F cap1 cap2 L n lost := by
  obtain ⟨c1, c2, h1, x1, b1, h2, x2, b2, rfl, h3, h4⟩ := h
  exact ⟨c1, c2, h1, x1, b1, h2, x2, b2, rfl, h3.fr k hd, h4⟩

theorem pk_nil {h : Bool} {x : Ev} {b : List Ev} (hl : lane h x b = []) : pkH h b = false ∧ pkR h b = [] := by
  cases h <;> simp [lane] at hl
  subst hl
  exact ⟨rfl, rfl⟩
theorem pk_cons {h : Bool} {x y : Ev} {b t : List Ev} (hl : lane h x b = y :: t) : pkH h b = true ∧ pkX h x b = y ∧ pkR h b = t := by
  cases h <;> simp [lane] at hl
  · subst hl; exact ⟨rfl, rfl, rfl⟩
  · obtain ⟨rfl, rfl⟩ := hl; exact ⟨rfl, rfl, rfl⟩
theorem pk_any (h : Bool) (x : Ev) (b : List Ev) : (pkH h b = false ∧ lane h x b = []) ∨ (pkH h b = true ∧ pkX h x b ∈ lane h x b) := by
  cases h <;> cases b <;> simp [lane, pkH, pkX]

/-- What first has found: nothing; or the first event, in its lane, and what is left behind it. -/
def Found (w : World) (p : Nat) (F : List Nat) (cap1 cap2 : Nat) (L : List Ev) (n lost : Nat) (v : Value) : Prop :=
  (L = [] ∧ v = .pointer none ∧ FeedAt w p F cap1 cap2 [] n lost) ∨
  ∃ (e : Ev) (M : List Ev) (o : Nat), L = e :: M ∧ v = .pointer (some ⟨p, o, none⟩) ∧ p ∈ F ∧ w.cell? ⟨p, o + 1, none⟩ = some (.int .i64 e.k) ∧ w.cell? ⟨p, o + 2, none⟩ = some (.string e.key) ∧
    w.cell? ⟨p, o + 4, none⟩ = some (.bool true) ∧ w.frozen? ⟨p, o + 4, none⟩ = false ∧ Lt F w ∧ ∀ w' : World, (∀ b ∈ F, w'.heap[b]? = w.heap[b]?) → FeedDr (w'.setCell ⟨p, o + 4, none⟩ (.bool false)) p F cap1 cap2 M n lost

theorem first_dr {w : World} {p cap1 cap2 n lost : Nat} {F : List Nat} {L : List Ev} (h : FeedDr w p F cap1 cap2 L n lost) :
    Calls Try.prog 52 #[.pointer (some ⟨p, 0, none⟩)] w fun e w' => ∃ v, e = .returned v ∧ Found w' p F cap1 cap2 L n lost v ∧ Fr F w w' := by
  obtain ⟨c1, c2, h1, x1, b1, h2, x2, b2, rfl, hr, hl1, hl2, hs⟩ := h
  refine (first_raw hr).mono ?_
  rintro e w' ⟨rfl, hr', hf⟩
  refine ⟨_, rfl, ?_, hf⟩
  have hlt := hr'.lt
  cases L with
  | nil =>
    obtain ⟨a1, a2⟩ := pk_nil hl1
    obtain ⟨a3, a4⟩ := pk_nil hl2
    rw [a1, a2, a3, a4] at hr'
    rw [a1, a3]
    exact .inl ⟨rfl, rfl, c1, c2, _, _, [], rfl, hr', ⟨List.Pairwise.nil, by simp⟩, rfl⟩
  | cons e M =>
    have hsM : Srt M n := ⟨hs.1.of_cons, fun x hx => hs.2 x (List.mem_cons_of_mem _ hx)⟩
    have hlow : ∀ x ∈ M, e.n < x.n := (List.pairwise_cons.1 hs.1).1
    right
    by_cases hk : rd e = true
    · have hk2 : nrd e = false := by simp [rd, nrd] at hk ⊢; exact hk
      rw [List.filter_cons_of_pos hk] at hl1
      rw [List.filter_cons_of_neg (by simp [hk2])] at hl2
      obtain ⟨a1, a2, a3⟩ := pk_cons hl1
      rw [a1, a2, a3] at hr'
      have hP : firstP p true (pkH h2 b2) (pkX h1 x1 b1).n (pkX h2 x2 b2).n = some ⟨p, 0, none⟩ := by
        rw [a2]
        rcases pk_any h2 x2 b2 with ⟨g1, _⟩ | ⟨g1, g2⟩
        · simp [firstP, g1]
        · rw [hl2] at g2
          have := hlow _ ((List.mem_filter.1 g2).1)
          simp [firstP, g1]
          omega
      rw [a1, hP]
      have hb := hr'.2.2.2.1
      refine ⟨e, M, 0, rfl, rfl, by simp, by rw [cell_of_block hb]; rfl, by rw [cell_of_block hb]; rfl, by rw [cell_of_block hb]; rfl, free_of_block hb _, hlt, fun w2 hw2 => ?_⟩
      refine ⟨c1, c2, false, e, M.filter rd, _, _, _, rfl, ⟨hr'.1, hr'.2.1, hr'.2.2.1, ?_, ?_, ?_⟩, rfl, by rw [lane_pk]; exact hl2, hsM⟩
      · rw [block_set_same ((hw2 p (by simp)).trans hb)]
        simp
      · obtain ⟨s, r, hc⟩ := hr'.2.2.2.2.1
        exact ⟨s, r, block_set_other ((hw2 c1 (by simp)).trans hc) (by simpa using hr'.1) _⟩
      · obtain ⟨s, r, hc⟩ := hr'.2.2.2.2.2
        exact ⟨s, r, block_set_other ((hw2 c2 (by simp)).trans hc) (by simpa using hr'.2.1) _⟩
    · have hk2 : nrd e = true := by simp [rd, nrd] at hk ⊢; exact hk
      rw [List.filter_cons_of_neg hk] at hl1
      rw [List.filter_cons_of_pos hk2] at hl2
      obtain ⟨a1, a2, a3⟩ := pk_cons hl2
      rw [a1, a2, a3] at hr'
      have hP : firstP p (pkH h1 b1) true (pkX h1 x1 b1).n (pkX h2 x2 b2).n = some ⟨p, 5, none⟩ := by
        rw [a2]
        rcases pk_any h1 x1 b1 with ⟨g1, _⟩ | ⟨g1, g2⟩
        · simp [firstP, g1]
        · rw [hl1] at g2
          have := hlow _ ((List.mem_filter.1 g2).1)
          simp [firstP, this]
      rw [a1, hP]
      have hb := hr'.2.2.2.1
      refine ⟨e, M, 5, rfl, rfl, by simp, by rw [cell_of_block hb]; rfl, by rw [cell_of_block hb]; rfl, by rw [cell_of_block hb]; rfl, free_of_block hb _, hlt, fun w2 hw2 => ?_⟩
      refine ⟨c1, c2, _, _, _, false, e, M.filter nrd, rfl, ⟨hr'.1, hr'.2.1, hr'.2.2.1, ?_, ?_, ?_⟩, by rw [lane_pk]; exact hl1, rfl, hsM⟩
      · rw [block_set_same ((hw2 p (by simp)).trans hb)]
        simp
      · obtain ⟨s, r, hc⟩ := hr'.2.2.2.2.1
        exact ⟨s, r, block_set_other ((hw2 c1 (by simp)).trans hc) (by simpa using hr'.1) _⟩
      · obtain ⟨s, r, hc⟩ := hr'.2.2.2.2.2
        exact ⟨s, r, block_set_other ((hw2 c2 (by simp)).trans hc) (by simpa using hr'.2.1) _⟩

theorem FeedAt.dr {w : World} {p cap1 cap2 n lost : Nat} {F : List Nat} {E : List (Int × ByteArray)} (h : FeedAt w p F cap1 cap2 E n lost) : ∃ L, L.map evp = E ∧ FeedDr w p F cap1 cap2 L n lost := by
  obtain ⟨c1, c2, x1, x2, L, rfl, h1, h2, h3⟩ := h
  exact ⟨L, h3, c1, c2, _, _, _, _, _, _, rfl, h1, rfl, rfl, h2⟩

/-- What Drain hands back. -/
def DrainRet (w : World) (p : Nat) (F : List Nat) (cap1 cap2 : Nat) (E : List (Int × ByteArray)) (n lost : Nat) (en : Ending) (w' : World) : Prop :=
  ∃ v, en = .returned v ∧ w'.ownsRow w.heap.size 58 2 v E.length (encEs E) ∧ FeedAt w' p F cap1 cap2 [] n lost ∧ Fr F w w'
set_option maxHeartbeats 1000000 in
theorem drain {w : World} {p cap1 cap2 n lost : Nat} {F : List Nat} {E : List (Int × ByteArray)} (h : FeedAt w p F cap1 cap2 E n lost) (hE : E.length ≤ 1000000) :
    Calls Try.prog 38 #[.pointer (some ⟨p, 0, none⟩)] w (DrainRet w p F cap1 cap2 E n lost) := by
  obtain ⟨i0, hi, hz0, hz1, hz2⟩ := info_parts infoE
  have hlF := h.lt
  obtain ⟨L, hL, hd⟩ := h.dr
  have HL := Lib.hid hL
  clear h hL
  go_enter Try.func38, Try.ntmps38
  go_wp2_with fail
  refine (first_dr hd).mono ?_
  rintro e w1 ⟨v, rfl, hfd, hf⟩
  obtain ⟨a, rfl⟩ : ∃ a, v = .pointer a := by
    rcases hfd with ⟨_, rfl, _⟩ | ⟨_, _, _, _, rfl, _⟩
    · exact ⟨_, rfl⟩
    · exact ⟨_, rfl⟩
  go_wp2_with fail
  go_loopg [3, 4] L.length (fun g u3 u4 wr => ∃ (M : List (Int × ByteArray)) (K : List Ev) (a : Option Addr), u4 = .pointer a ∧ Aside (M ++ K.map evp = E ∧ K.length = g) ∧ wr.ownsRow w.heap.size 58 2 u3 M.length (encEs M) ∧ Found wr p F cap1 cap2 K n lost (.pointer a) ∧ Fr F w wr)
  case atStart => exact ⟨[], L, a, rfl, ⟨HL.out, rfl⟩, World.ownsRow_nil _ _ _ _, hfd, hf⟩
  case round =>
    obtain ⟨M, K, a, rfl, hA, hown, hfd, hf⟩ := hrel
    rcases hfd with ⟨rfl, ha, hat⟩ | ⟨e, K', o, rfl, ha, hpF, k1, k2, k4, f4, hlt, hnext⟩
    · simp at ha
      subst ha
      obtain ⟨hM, _⟩ := hA.out
      simp at hM
      have HM := Lib.hid hM
      clear hM hA
      go_wp2_with fail
      go_ret
      exact ⟨_, rfl, by rw [← HM.out]; exact hown, hat, hf⟩
    · simp at ha
      subst ha
      obtain ⟨hM, hK⟩ := hA.out
      have hlen : M.length + 1 ≤ E.length := by rw [← hM]; simp
      have hsz := hf.size
      have hpl : p < w.heap.size := hlF p hpF
      have hnp := ownNe hown hpl
      have HA := Lib.hid (And.intro hM hK)
      have HN := Lib.hid hnext
      clear hA hnext hM hK
      go_wp2_with (at_builtin; refine wpList_append_lies _ rfl _ _ _ rfl w.heap.size 58 i0 (.agg #[.int .i64 0, .string ⟨#[]⟩]) 2 24 Try.underlying54 hi hz0 hz1 hz2 rfl (by decide) u3 M.length (encEs M) rfl (by exact hown.alloc _) ⟨wr.heap.size, 0, none⟩ 1 1 [.int .i64 e.k, .string e.key] rfl rfl ?c1 ?c2 (by omega) ?c3 ?c4 ?c5 _ rfl ?_)
      case c1 => exact World.news_of_block (cs := #[.int .i64 e.k, .string e.key]) (t := 58) (fr := (0, 0)) (heap_alloc_new wr _)
      case c2 => simp [Value.oneCell']
      case c3 => unfold maxLen; omega
      case c4 => omega
      case c5 => simp; omega
      intro g cp w2 hown2 hgrow hat hlt2
      have hfw : ∀ b, b ∈ F → w2.heap[b]? = wr.heap[b]? := fun b hb => by
        rw [hgrow.block b (by have := hlt b hb; simp; omega) (ownNe hown (hlF b hb))]
        exact Below.heap_alloc _ _ _ (hlt b hb)
      have q4 := (World.cell?_of_block (w := wr) (a := ⟨p, o + 4, none⟩) (hfw p hpF)).trans k4
      have g4 := (World.frozen?_of_block (w := wr) (a := ⟨p, o + 4, none⟩) (hfw p hpF)).trans f4
      have hdr := HN.out w2 hfw
      have hF2 : Fr F w w2 := (hf.alloc (.cells #[.int .i64 e.k, .string e.key] 58)).grownOwn hgrow hown
      clear k1 k2 k4 f4
      have HW := Lib.hid hfw
      have HO := Lib.hid hown2
      clear hfw hown2 hat
      go_wp2_with fail
      refine (first_dr hdr).mono ?_
      rintro e' w3 ⟨v, rfl, hfd3, hf3⟩
      obtain ⟨a, rfl⟩ : ∃ a, v = .pointer a := by
        rcases hfd3 with ⟨_, rfl, _⟩ | ⟨_, _, _, _, rfl, _⟩
        · exact ⟨_, rfl⟩
        · exact ⟨_, rfl⟩
      go_wp2_with fail
      obtain ⟨hM, hK⟩ := HA.out
      have hsets : Fr F w (w2.setCell ⟨p, o + 4, none⟩ (.bool false)) := hF2.setCell hpF _
      have hfs : Fr F w2 (w2.setCell ⟨p, o + 4, none⟩ (.bool false)) := (Fr.refl F w2).setCell hpF _
      go_roundg K'.length
      case measure => rw [← hK]; simp
      case rel =>
        refine ⟨M ++ [evp e], K', a, rfl, ⟨by rw [← hM]; simp, rfl⟩, ?_, hfd3, hsets.same hf3⟩
        have h5 : w2.ownsRow w.heap.size 58 2 (.slice (some ⟨g, 0, none⟩) (M.length + 1) cp) (M ++ [evp e]).length (encEs (M ++ [evp e])) := by
          rw [encEs_snoc]; simpa [evp] using HO.out
        exact ownFr h5 (hfs.same hf3) (fun b hb => hlF b hb)
end Go.Proofs.Ytapfkpkomdmibaa
