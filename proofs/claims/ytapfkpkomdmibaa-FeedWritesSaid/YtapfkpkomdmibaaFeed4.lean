/- The walks over package feed: Read, Write, Waiting, Lost, New. -/
import Derived.Test.YtapfkpkomdmibaaFeed3
import Derived.Conc.LoneSelectN
set_option linter.unusedVariables false
set_option linter.unusedSimpArgs false
namespace Go.Proofs.Ytapfkpkomdmibaa
open Go.RowKit Go.Conc
attribute [local go_sem ↓] Go.wp_at_zero Go.wp_at_succ

def nR (E : List (Int × ByteArray)) : Nat := (E.filter fun e => e.1 == 1).length
def nW (E : List (Int × ByteArray)) : Nat := (E.filter fun e => !(e.1 == 1)).length
theorem rd_len (L : List Ev) : (L.filter rd).length = nR (L.map evp) := by
  unfold nR; rw [List.filter_map, List.length_map]; rfl
theorem nrd_len (L : List Ev) : (L.filter nrd).length = nW (L.map evp) := by
  unfold nW; rw [List.filter_map, List.length_map]; rfl
theorem nRW (E : List (Int × ByteArray)) : nR E + nW E = E.length := by
  unfold nR nW
  induction E with
  | nil => rfl
  | cons e E ih => by_cases h : e.1 == 1 <;> simp [List.filter_cons, h] at ih ⊢ <;> omega
theorem Srt.push {L : List Ev} {n : Nat} (h : Srt L n) (k : Int) (key : ByteArray) : Srt (L ++ [⟨k, key, n⟩]) (n + 1) := by
  refine ⟨List.pairwise_append.2 ⟨h.1, by simp, fun a ha b hb => ?_⟩, fun e he => ?_⟩
  · simp at hb; subst hb; exact h.2 a ha
  · rcases List.mem_append.1 he with he | he
    · have := h.2 e he; omega
    · simp at he; subst he; simp

section
variable {w : World} {p cap1 cap2 n lost : Nat} {F : List Nat} {E : List (Int × ByteArray)}

theorem FeedAt.push1 {c1 c2 : Nat} {x1 x2 : Ev} {L : List Ev} (key : ByteArray) (s r : Nat) (hr : FeedRaw w p c1 c2 cap1 cap2 false x1 (L.filter rd) false x2 (L.filter nrd) n lost) (hs : Srt L n) (hE : L.map evp = E) :
    FeedAt ((w.setChan c1 cap1 ((L.filter rd).map Ev.enc |>.toArray.push (Ev.enc ⟨1, key, n⟩)) false (s + 1) r false).setCell ⟨p, 10, none⟩ (.int .i64 ((n : Int) + 1))) p [p, c1, c2] cap1 cap2 (E ++ [(1, key)]) (n + 1) lost ∧
    Fr [p, c1, c2] w ((w.setChan c1 cap1 ((L.filter rd).map Ev.enc |>.toArray.push (Ev.enc ⟨1, key, n⟩)) false (s + 1) r false).setCell ⟨p, 10, none⟩ (.int .i64 ((n : Int) + 1))) := by
  obtain ⟨q1, q2, q3, hp, ⟨s1, r1, hc1⟩, ⟨s2, r2, hc2⟩⟩ := hr
  have hfr := setChan_fr (w := w) c1 cap1 ((L.filter rd).map Ev.enc |>.toArray.push (Ev.enc ⟨1, key, n⟩)) false (s + 1) r false
  have hh := heap_setChan w c1 cap1 ((L.filter rd).map Ev.enc |>.toArray.push (Ev.enc ⟨1, key, n⟩)) false (s + 1) r false (lt_of_block hc1)
  refine ⟨⟨c1, c2, x1, x2, L ++ [⟨1, key, n⟩], rfl, ⟨q1, q2, q3, ?_, ⟨s + 1, r, ?_⟩, ⟨s2, r2, ?_⟩⟩, hs.push 1 key, by simp [hE, evp]⟩, (hfr.mono (fun b hb _ => by simp at hb ⊢; omega)).setCell (by simp) _⟩
  · rw [block_set_same (hfr.get hp (by simpa using q1))]
    simp
  · refine block_set_other ?_ (by simpa using q1) _
    rw [hh]
    simp [rd]
  · refine block_set_other (hfr.get ?_ (by simpa using Ne.symm q3)) (by simpa using q2) _
    rw [hc2]
    simp [nrd]
theorem FeedAt.push2 {c1 c2 : Nat} {x1 x2 : Ev} {L : List Ev} (k : Int) (key : ByteArray) (hk : k ≠ 1) (s r : Nat) (hr : FeedRaw w p c1 c2 cap1 cap2 false x1 (L.filter rd) false x2 (L.filter nrd) n lost) (hs : Srt L n) (hE : L.map evp = E) :
    FeedAt ((w.setChan c2 cap2 ((L.filter nrd).map Ev.enc |>.toArray.push (Ev.enc ⟨k, key, n⟩)) false (s + 1) r false).setCell ⟨p, 10, none⟩ (.int .i64 ((n : Int) + 1))) p [p, c1, c2] cap1 cap2 (E ++ [(k, key)]) (n + 1) lost ∧
    Fr [p, c1, c2] w ((w.setChan c2 cap2 ((L.filter nrd).map Ev.enc |>.toArray.push (Ev.enc ⟨k, key, n⟩)) false (s + 1) r false).setCell ⟨p, 10, none⟩ (.int .i64 ((n : Int) + 1))) := by
  obtain ⟨q1, q2, q3, hp, ⟨s1, r1, hc1⟩, ⟨s2, r2, hc2⟩⟩ := hr
  have hfr := setChan_fr (w := w) c2 cap2 ((L.filter nrd).map Ev.enc |>.toArray.push (Ev.enc ⟨k, key, n⟩)) false (s + 1) r false
  have hh := heap_setChan w c2 cap2 ((L.filter nrd).map Ev.enc |>.toArray.push (Ev.enc ⟨k, key, n⟩)) false (s + 1) r false (lt_of_block hc2)
  refine ⟨⟨c1, c2, x1, x2, L ++ [⟨k, key, n⟩], rfl, ⟨q1, q2, q3, ?_, ⟨s1, r1, ?_⟩, ⟨s + 1, r, ?_⟩⟩, hs.push k key, by simp [hE, evp]⟩, (hfr.mono (fun b hb _ => by simp at hb ⊢; omega)).setCell (by simp) _⟩
  · rw [block_set_same (hfr.get hp (by simpa using q2))]
    simp
  · refine block_set_other (hfr.get ?_ (by simpa using q3)) (by simpa using q1) _
    rw [hc1]
    simp [rd, hk]
  · refine block_set_other ?_ (by simpa using q2) _
    rw [hh]
    have e1 : ([⟨k, key, n⟩] : List Ev).filter nrd = [⟨k, key, n⟩] := by rw [List.filter_cons_of_pos (by simp [nrd, hk])]; rfl
    simp [List.filter_append, e1]

def readB (cap1 : Nat) (E : List (Int × ByteArray)) : Bool := decide (nR E < cap1)
def readE (cap1 : Nat) (E : List (Int × ByteArray)) (key : ByteArray) : List (Int × ByteArray) := if nR E < cap1 then E ++ [(1, key)] else E
def readL (cap1 : Nat) (E : List (Int × ByteArray)) (lost : Nat) : Nat := if nR E < cap1 then lost else lost + 1
def writeB (cap2 : Nat) (E : List (Int × ByteArray)) (k : Int) : Bool := decide ((k = 2 ∨ k = 3) ∧ nW E < cap2)
def writeE (cap2 : Nat) (E : List (Int × ByteArray)) (k : Int) (key : ByteArray) : List (Int × ByteArray) := if (k = 2 ∨ k = 3) ∧ nW E < cap2 then E ++ [(k, key)] else E

theorem read (h : FeedAt w p F cap1 cap2 E n lost) (hn : n ≤ 1000000000) (hl : lost ≤ 1000000000) (key : ByteArray) :
    Calls Try.prog 36 #[.pointer (some ⟨p, 0, none⟩), .string key] w fun e w' => e = .returned (.bool (readB cap1 E)) ∧ (∃ n', n' ≤ n + 1 ∧ FeedAt w' p F cap1 cap2 (readE cap1 E key) n' (readL cap1 E lost)) ∧ Fr F w w' := by
  have h0 := h
  obtain ⟨c1, c2, x1, x2, L, rfl, hr, hs, hE⟩ := h
  have hr0 := hr
  obtain ⟨q1, q2, q3, hp, ⟨s1, r1, hc1⟩, ⟨s2, r2, hc2⟩⟩ := hr
  have k := cell_of_block hp
  have f := free_of_block hp
  have hlen : ((L.filter rd).map Ev.enc).toArray.size = nR E := by simp [rd_len, hE]
  by_cases hlt : nR E < cap1
  · obtain ⟨hat, hfr⟩ := FeedAt.push1 (E := E) key s1 r1 hr0 hs hE
    have hw := waits_room p 0 c1 cap1 n _ s1 r1 1 key w (by rw [k]; rfl) (by rw [k]; rfl) (f 10) hc1 q1 (by rw [hlen]; exact hlt) hn
    have HW := Lib.hid hw
    have HA := Lib.hid hat
    have HF := Lib.hid hfr
    simp only [readB, readE, readL, hlt, if_true, decide_true]
    clear hw hat hfr hr0 hs hE hp hc1 hc2 k f hlen h0
    go_enter Try.func36, Try.ntmps36
    go_wp2_with fail
    refine HW.out.mono ?_
    rintro e w1 ⟨rfl, hw1⟩
    rw [← hw1] at HA HF
    clear hw1
    go_wp2
    go_ret
    exact ⟨rfl, ⟨_, Nat.le_refl _, HA.out⟩, HF.out⟩
  · have hw := waits_full p 0 c1 cap1 _ s1 r1 1 key _ w (by rw [k]; rfl) (by rw [k]; rfl) hc1 (by rw [hlen]; omega)
    have HW := Lib.hid hw
    have kl : w.cell? ⟨p, 11, none⟩ = some (.int .i64 lost) := by rw [k]; rfl
    have fl := f 11
    have fin : FeedAt (w.setCell ⟨p, 11, none⟩ (.int .i64 ((lost : Int) + 1))) p [p, c1, c2] cap1 cap2 E n (lost + 1) := by
      refine ⟨c1, c2, x1, x2, L, rfl, ⟨q1, q2, q3, ?_, ⟨s1, r1, block_set_other hc1 q1 _⟩, ⟨s2, r2, block_set_other hc2 q2 _⟩⟩, hs, hE⟩
      rw [block_set_same hp]
      simp
    have FIN := Lib.hid fin
    simp only [readB, readE, readL, hlt, if_false, decide_false]
    clear hw hr0 hs hE hp hc1 hc2 k f hlen h0 fin
    go_enter Try.func36, Try.ntmps36
    go_wp2_with fail
    refine HW.out.mono ?_
    rintro e w1 ⟨rfl, rfl⟩
    go_wp2
    go_ret
    exact ⟨rfl, ⟨n, by omega, FIN.out⟩, (Fr.refl _ _).setCell (by simp) _⟩

theorem write (h : FeedAt w p F cap1 cap2 E n lost) (hn : n ≤ 1000000000) (kd : Int) (key : ByteArray) :
    Calls Try.prog 37 #[.pointer (some ⟨p, 0, none⟩), .int .i64 kd, .string key] w fun e w' => e = .returned (.bool (writeB cap2 E kd)) ∧ (∃ n', n' ≤ n + 1 ∧ FeedAt w' p F cap1 cap2 (writeE cap2 E kd key) n' lost) ∧ Fr F w w' := by
  have h0 := h
  obtain ⟨c1, c2, x1, x2, L, rfl, hr, hs, hE⟩ := h
  have hr0 := hr
  obtain ⟨q1, q2, q3, hp, ⟨s1, r1, hc1⟩, ⟨s2, r2, hc2⟩⟩ := hr
  have k := cell_of_block hp
  have f := free_of_block hp
  have hlen : ((L.filter nrd).map Ev.enc).toArray.size = nW E := by simp [nrd_len, hE]
  by_cases hk : kd = 2 ∨ kd = 3
  · by_cases hlt : nW E < cap2
    · obtain ⟨hat, hfr⟩ := FeedAt.push2 (E := E) kd key (by omega) s2 r2 hr0 hs hE
      have hw := waits_room p 5 c2 cap2 n _ s2 r2 kd key w (by rw [k]; rfl) (by rw [k]; rfl) (f 10) hc2 q2 (by rw [hlen]; exact hlt) hn
      have hc : (kd = 2 ∨ kd = 3) ∧ nW E < cap2 := ⟨hk, hlt⟩
      simp only [writeB, writeE, if_pos hc, decide_eq_true hc]
      have HW := Lib.hid hw
      have HA := Lib.hid hat
      have HF := Lib.hid hfr
      clear hw hat hfr hr0 hs hE hp hc1 hc2 k f hlen h0 hc
      rcases hk with rfl | rfl
      all_goals
        go_enter Try.func37, Try.ntmps37
        go_wp2_with fail
        refine HW.out.mono ?_
        rintro e w1 ⟨rfl, hw1⟩
        rw [← hw1] at HA HF
        clear hw1
        go_wp2
        go_ret
        exact ⟨rfl, ⟨_, Nat.le_refl _, HA.out⟩, HF.out⟩
    · have hw := waits_full p 5 c2 cap2 _ s2 r2 kd key _ w (by rw [k]; rfl) (by rw [k]; rfl) hc2 (by rw [hlen]; omega)
      have hc : ¬ ((kd = 2 ∨ kd = 3) ∧ nW E < cap2) := fun h => hlt h.2
      simp only [writeB, writeE, if_neg hc, decide_eq_false hc]
      have HW := Lib.hid hw
      have H0 := Lib.hid h0
      clear hw hr0 hs hE hp hc1 hc2 k f hlen h0 hc
      rcases hk with rfl | rfl
      all_goals
        go_enter Try.func37, Try.ntmps37
        go_wp2_with fail
        refine HW.out.mono ?_
        rintro e w1 ⟨rfl, rfl⟩
        go_wp2
        go_ret
        exact ⟨rfl, ⟨n, by omega, H0.out⟩, Fr.refl _ _⟩
  · have hc : ¬ ((kd = 2 ∨ kd = 3) ∧ nW E < cap2) := fun h => hk h.1
    simp only [writeB, writeE, if_neg hc, decide_eq_false hc]
    have b2 : (kd != 2) = true := by rw [bne_iff_ne]; omega
    have b3 : (kd != 3) = true := by rw [bne_iff_ne]; omega
    have b4 : (kd == 2) = false := by rw [beq_eq_false_iff_ne]; omega
    have b5 : (kd == 3) = false := by rw [beq_eq_false_iff_ne]; omega
    have H0 := Lib.hid h0
    clear hr0 hs hE hp hc1 hc2 k f hlen h0 hc hk
    go_enter Try.func37, Try.ntmps37
    go_wp2
    go_ret
    exact ⟨rfl, ⟨n, by omega, H0.out⟩, Fr.refl _ _⟩

theorem lost_c (h : FeedAt w p F cap1 cap2 E n lost) : Calls Try.prog 46 #[.pointer (some ⟨p, 0, none⟩)] w fun e w' => e = .returned (.int .i64 lost) ∧ w = w' := by
  obtain ⟨c1, c2, x1, x2, L, rfl, hr, hs, hE⟩ := h
  have k : w.cell? ⟨p, 11, none⟩ = some (.int .i64 lost) := by rw [cell_of_block hr.2.2.2.1]; rfl
  clear hr hs hE
  go_enter Try.func46, Try.ntmps46
  go_wp2
  go_ret
  exact ⟨rfl, rfl⟩
theorem waiting (h : FeedAt w p F cap1 cap2 E n lost) : Calls Try.prog 45 #[.pointer (some ⟨p, 0, none⟩)] w fun e w' => e = .returned (.tuple #[.int .i64 (nR E), .int .i64 (nW E)]) ∧ ∃ q, w' = w.drewN q := by
  obtain ⟨c1, c2, x1, x2, L, rfl, hr, hs, hE⟩ := h
  have k0 : w.cell? ⟨p, 0, none⟩ = some (.chan (some c1)) := by rw [cell_of_block hr.2.2.2.1]; rfl
  have k5 : w.cell? ⟨p, 5, none⟩ = some (.chan (some c2)) := by rw [cell_of_block hr.2.2.2.1]; rfl
  obtain ⟨s1, r1, hc1⟩ := hr.2.2.2.2.1
  obtain ⟨s2, r2, hc2⟩ := hr.2.2.2.2.2
  have l1 := fun (q : Nat) ty => run_len_chan (P := Try.prog) (w := w.drewN q) 78 ty Try.underlying78 hc1
  have l2 := fun (q : Nat) ty => run_len_chan (P := Try.prog) (w := w.drewN q) 78 ty Try.underlying78 hc2
  have hl1 : ((L.filter rd).map Ev.enc).toArray.size = nR E := by simp [rd_len, hE]
  have hl2 : ((L.filter nrd).map Ev.enc).toArray.size = nW E := by simp [nrd_len, hE]
  rw [hl1] at l1
  rw [hl2] at l2
  clear hr hs hE hc1 hc2 hl1 hl2
  go_enter Try.func45, Try.ntmps45
  go_wp2
  go_quiet (fail)
  go_wp2
  go_ret2
  exact ⟨rfl, _, rfl⟩
end

theorem infoN : (Try.prog.info? 80).map (fun i => (i.zero, i.size, i.bytes)) = some (some (.agg #[.int .i64 0, .string ⟨#[]⟩, .int .i64 0]), 3, 32) := by kernel_rfl
theorem feedNew_bad (r wr : Int) (w : World) (h : ¬ (0 ≤ r ∧ r ≤ 256 ∧ 1 ≤ wr ∧ wr ≤ 256)) : Calls Try.prog 35 #[.int .i64 r, .int .i64 wr] w fun e w' => e = .returned (.tuple #[.pointer none, .int .i64 1]) ∧ w = w' := by
  go_enter Try.func35, Try.ntmps35
  go_wp2
  all_goals
    go_ret2
    exact ⟨rfl, rfl⟩
theorem feedNew_a (w : World) (r wr : Nat) : FeedAt (((w.alloc (.chan r #[] false 0 0 false)).alloc (.chan wr #[] false 0 0 false)).alloc (.cells #[.chan (some w.heap.size), .int .i64 0, .string ⟨#[]⟩, .int .i64 0, .bool false, .chan (some (w.heap.size + 1)), .int .i64 0, .string ⟨#[]⟩, .int .i64 0, .bool false, .int .i64 0, .int .i64 0] 84)).drew (w.heap.size + 1 + 1) [w.heap.size + 1 + 1, w.heap.size, (w.heap.size + 1)] r wr [] 0 0 := by
  have a1 := block_alloc_old (block_alloc_old (block_alloc_new w (.chan r #[] false 0 0 false)) (.chan wr #[] false 0 0 false)) (.cells #[.chan (some w.heap.size), .int .i64 0, .string ⟨#[]⟩, .int .i64 0, .bool false, .chan (some (w.heap.size + 1)), .int .i64 0, .string ⟨#[]⟩, .int .i64 0, .bool false, .int .i64 0, .int .i64 0] 84)
  have a2 := block_alloc_old (block_alloc_new (w.alloc (.chan r #[] false 0 0 false)) (.chan wr #[] false 0 0 false)) (.cells #[.chan (some w.heap.size), .int .i64 0, .string ⟨#[]⟩, .int .i64 0, .bool false, .chan (some (w.heap.size + 1)), .int .i64 0, .string ⟨#[]⟩, .int .i64 0, .bool false, .int .i64 0, .int .i64 0] 84)
  have a3 := block_alloc_new ((w.alloc (.chan r #[] false 0 0 false)).alloc (.chan wr #[] false 0 0 false)) (.cells #[.chan (some w.heap.size), .int .i64 0, .string ⟨#[]⟩, .int .i64 0, .bool false, .chan (some (w.heap.size + 1)), .int .i64 0, .string ⟨#[]⟩, .int .i64 0, .bool false, .int .i64 0, .int .i64 0] 84)
  simp only [World.size_alloc] at a1 a2 a3
  exact ⟨w.heap.size, (w.heap.size + 1), ⟨0, ⟨#[]⟩, 0⟩, ⟨0, ⟨#[]⟩, 0⟩, [], rfl, ⟨by omega, by omega, by omega, a3, ⟨0, 0, by first | exact a1 | exact a2⟩, ⟨0, 0, by first | exact a1 | exact a2⟩⟩, ⟨List.Pairwise.nil, by simp⟩, rfl⟩
theorem feedNew_b (w : World) (r wr : Nat) : FeedAt (((w.alloc (.chan wr #[] false 0 0 false)).alloc (.chan r #[] false 0 0 false)).alloc (.cells #[.chan (some (w.heap.size + 1)), .int .i64 0, .string ⟨#[]⟩, .int .i64 0, .bool false, .chan (some w.heap.size), .int .i64 0, .string ⟨#[]⟩, .int .i64 0, .bool false, .int .i64 0, .int .i64 0] 84)).drew (w.heap.size + 1 + 1) [w.heap.size + 1 + 1, (w.heap.size + 1), w.heap.size] r wr [] 0 0 := by
  have a1 := block_alloc_old (block_alloc_old (block_alloc_new w (.chan wr #[] false 0 0 false)) (.chan r #[] false 0 0 false)) (.cells #[.chan (some (w.heap.size + 1)), .int .i64 0, .string ⟨#[]⟩, .int .i64 0, .bool false, .chan (some w.heap.size), .int .i64 0, .string ⟨#[]⟩, .int .i64 0, .bool false, .int .i64 0, .int .i64 0] 84)
  have a2 := block_alloc_old (block_alloc_new (w.alloc (.chan wr #[] false 0 0 false)) (.chan r #[] false 0 0 false)) (.cells #[.chan (some (w.heap.size + 1)), .int .i64 0, .string ⟨#[]⟩, .int .i64 0, .bool false, .chan (some w.heap.size), .int .i64 0, .string ⟨#[]⟩, .int .i64 0, .bool false, .int .i64 0, .int .i64 0] 84)
  have a3 := block_alloc_new ((w.alloc (.chan wr #[] false 0 0 false)).alloc (.chan r #[] false 0 0 false)) (.cells #[.chan (some (w.heap.size + 1)), .int .i64 0, .string ⟨#[]⟩, .int .i64 0, .bool false, .chan (some w.heap.size), .int .i64 0, .string ⟨#[]⟩, .int .i64 0, .bool false, .int .i64 0, .int .i64 0] 84)
  simp only [World.size_alloc] at a1 a2 a3
  exact ⟨(w.heap.size + 1), w.heap.size, ⟨0, ⟨#[]⟩, 0⟩, ⟨0, ⟨#[]⟩, 0⟩, [], rfl, ⟨by omega, by omega, by omega, a3, ⟨0, 0, by first | exact a1 | exact a2⟩, ⟨0, 0, by first | exact a1 | exact a2⟩⟩, ⟨List.Pairwise.nil, by simp⟩, rfl⟩
theorem feedNew (r wr : Nat) (w : World) (h1 : r ≤ 256) (h2 : 1 ≤ wr) (h3 : wr ≤ 256) : Calls Try.prog 35 #[.int .i64 r, .int .i64 wr] w fun e w' => ∃ p F, e = .returned (.tuple #[.pointer (some ⟨p, 0, none⟩), .int .i64 0]) ∧ FeedAt w' p F r wr [] 0 0 ∧ Ge w.heap.size F ∧ Fr [] w w' := by
  obtain ⟨i0, hi, hz0, hz1, hz2⟩ := info_parts infoN
  have m1 := fun (w : World) => run_makeChan (P := Try.prog) (w := w) Try.underlying78 hi .i64 r (by omega) (by rw [hz2]; omega)
  have m2 := fun (w : World) => run_makeChan (P := Try.prog) (w := w) Try.underlying78 hi .i64 wr (by omega) (by rw [hz2]; omega)
  go_enter Try.func35, Try.ntmps35
  go_wp2
  go_region
  all_goals go_wp2
  · go_ret2
    exact ⟨_, _, rfl, feedNew_a w r wr, by intro b hb; simp at hb; omega, ((((Fr.refl [] w).alloc _).alloc _).alloc _).drew⟩
  · go_ret2
    exact ⟨_, _, rfl, feedNew_b w r wr, by intro b hb; simp at hb; omega, ((((Fr.refl [] w).alloc _).alloc _).alloc _).drew⟩

theorem read_nil (w : World) (key : ByteArray) : Calls Try.prog 36 #[.pointer none, .string key] w fun e w' => e = .returned (.bool false) ∧ w = w' := by
  go_enter Try.func36, Try.ntmps36
  go_wp2
  go_ret
  exact ⟨rfl, rfl⟩
theorem write_nil (w : World) (kd : Int) (key : ByteArray) : Calls Try.prog 37 #[.pointer none, .int .i64 kd, .string key] w fun e w' => e = .returned (.bool false) ∧ w = w' := by
  go_enter Try.func37, Try.ntmps37
  go_wp2
  go_ret
  exact ⟨rfl, rfl⟩
theorem drain_nil (w : World) : Calls Try.prog 38 #[.pointer none] w fun e w' => e = .returned (.slice none 0 0) ∧ w = w' := by
  go_enter Try.func38, Try.ntmps38
  go_wp2
  go_ret
  exact ⟨rfl, rfl⟩
theorem lost_nil (w : World) : Calls Try.prog 46 #[.pointer none] w fun e w' => e = .returned (.int .i64 0) ∧ w = w' := by
  go_enter Try.func46, Try.ntmps46
  go_wp2
  go_ret
  exact ⟨rfl, rfl⟩
theorem waiting_nil (w : World) : Calls Try.prog 45 #[.pointer none] w fun e w' => e = .returned (.tuple #[.int .i64 0, .int .i64 0]) ∧ w = w' := by
  go_enter Try.func45, Try.ntmps45
  go_wp2
  go_ret2
  exact ⟨rfl, rfl⟩
end Go.Proofs.Ytapfkpkomdmibaa
