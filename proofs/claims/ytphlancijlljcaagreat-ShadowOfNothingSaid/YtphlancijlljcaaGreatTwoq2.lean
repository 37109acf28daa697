/- The walks over twoq's engine: reclaims, Access, New. -/
import Derived.Test.YtphlancijlljcaaGreatTwoq
set_option linter.unusedVariables false
set_option linter.unusedSimpArgs false
namespace Go.Proofs.YtphlancijlljcaaGreat
open Go.RowKit
attribute [local go_sem ↓] Go.wp_at_zero Go.wp_at_succ
section
variable {w : World} {e g cap x : Nat} {F : List Nat} {s : Twoq}
theorem qevict (H : ERows IRepQ 3 209 w e g cap x F s.K [.int .i64 (s.c : Nat), .int .i64 (s.kin : Nat), .int .i64 (s.kout : Nat)]) (hc2 : s.c ≤ 1024) (ht : tot 3 s.K ≤ 70000) :
    Calls Tryz.prog 368 #[.pointer (some ⟨e, 0, none⟩)] w (EvRet IRepQ 3 209 w e g cap x F s.evict.1 s.evict.2.1 s.evict.2.2.K [.int .i64 (s.c : Nat), .int .i64 (s.kin : Nat), .int .i64 (s.kout : Nat)]) := by
  have hk : s.kin ≤ 1024 := by unfold Twoq.kin; omega
  have ho : s.kout ≤ 1024 := by unfold Twoq.kout; omega
  unfold Twoq.evict Twoq.len
  by_cases h0 : (s.K 0).length + (s.K 2).length = 0
  · rw [if_pos h0]; exact qevict0 H ht hk ho h0
  · rw [if_neg h0]
    by_cases h1 : (s.K 0).length ≤ s.kin ∧ 0 < (s.K 2).length
    · rw [if_pos h1]; exact qevict1 H ht hk ho h1
    · rw [if_neg h1]
      by_cases h2 : (s.K 0).length ≤ s.kin
      · exact qevict2 H ht hk ho ⟨h2, by omega, by omega⟩
      · exact qevict3 H ht hk ho (by omega)
set_option maxRecDepth 100000 in
theorem qreclaims (H : ERows IRepQ 3 209 w e g cap x F s.K [.int .i64 (s.c : Nat), .int .i64 (s.kin : Nat), .int .i64 (s.kout : Nat)]) (hc2 : s.c ≤ 1024) (ht : tot 3 s.K ≤ 70000) :
    Calls Tryz.prog 380 #[.pointer (some ⟨e, 0, none⟩)] w (GRet IRepQ 3 209 w e g cap x F s.reclaim.1 s.reclaim.2.K [.int .i64 (s.c : Nat), .int .i64 (s.kin : Nat), .int .i64 (s.kout : Nat)]) := by
  have k2 := H.kr0
  have HE := Lib.hid fun (w1 : World) (f : Fr [] w w1) => qevict (H.fr0 irokQ f) hc2 ht
  have HL := Lib.hid fun (w1 : World) (f : Fr [] w w1) => qlen (H.fr0 irokQ f) (s := s.len) rfl
  have HH := Lib.hid H
  have hlb : s.len ≤ 70000 := by unfold Twoq.len; rw [tot3] at ht; omega
  obtain ⟨n, hn⟩ : ∃ n, s.len = n := ⟨_, rfl⟩
  obtain ⟨c, hc⟩ : ∃ c, s.c = c := ⟨_, rfl⟩
  have hrec : s.reclaim = if n < c then ([], s) else ([s.evict.1], s.evict.2.2) := by unfold Twoq.reclaim; rw [hn, hc]
  obtain ⟨res, hres⟩ : ∃ r, s.reclaim = r := ⟨_, rfl⟩
  rw [hres] at hrec ⊢
  rw [hn] at HL hlb
  rw [hc] at k2 hc2
  have HR := Lib.hid hrec
  clear H ht hn hc hrec hres
  by_cases hlt : n < c
  all_goals
    go_enter Tryz.func380, Tryz.ntmps380
    go_wp2_with fail
    first
      | (go_region_held3 (fun w' => w'.cell? ⟨e, 2, none⟩ = some (.int .i64 c))
          (first
            | (have _h := hf1; exact cell_fr (((Fr.refl [] _).drew).same hf1) k2 (by simp))
            | exact k2)
          (first
            | (go_at_call 372; refine (HL.out _ ((Fr.refl [] _).drew)).mono ?_; rintro en w1 ⟨rfl, hf1⟩)))
      | fail
    have hf : Fr [] w w1 := ((Fr.refl [] _).drew).same hf1
    clear hf1 k2
  · go_wp2
    go_ret
    rw [HR.out, if_pos hlt]
    exact GRet.nil ((EGo.refl HH.out).fr irokQ hf)
  · go_wp2_with fail
    refine (HE.out _ hf).mono ?_
    rintro en w2 ⟨rfl, heg⟩
    have HG := Lib.hid (heg.old hf)
    clear heg
    go_wp2
    go_ret
    rw [HR.out, if_neg hlt]
    exact GRet.one irokQ HG.out _ rfl
end
def EQ (w : World) (e : Nat) (F : List Nat) (s : Twoq) : Prop := s.Inv ∧ ∃ g cap x, ERows IRepQ 3 209 w e g cap x F s.K [.int .i64 (s.c : Nat), .int .i64 (s.kin : Nat), .int .i64 (s.kout : Nat)]
theorem EQ.fr {w w' : World} {e : Nat} {F G : List Nat} {s : Twoq} (h : EQ w e F s) (f : Fr G w w') (hd : Dis F G) : EQ w' e F s := by
  obtain ⟨hi, g, cap, x, h⟩ := h
  exact ⟨hi, g, cap, x, h.fr irokQ f hd⟩
theorem EQ.lt {w : World} {e : Nat} {F : List Nat} {s : Twoq} (h : EQ w e F s) : Lt F w := by
  obtain ⟨hi, g, cap, x, h⟩ := h
  exact h.lt irokQ
def QRet (w : World) (e g cap x : Nat) (F : List Nat) (r : Bool × List ByteArray × Rows) (rest : List Value) (en : Ending) (w' : World) : Prop :=
  ∃ v F', en = .returned (.tuple #[.bool r.1, v]) ∧ Gone w w' v r.2.1 ∧ ERows IRepQ 3 209 w' e g cap x F' r.2.2 rest ∧ Sub F' F w ∧ Fr F w w' ∧ Dis v.ownBlock.toList F'
section
variable {w : World} {e g cap x : Nat} {F : List Nat} {s : Twoq}
set_option maxRecDepth 100000 in
theorem qaccess2 (H : ERows IRepQ 3 209 w e g cap x F s.K [.int .i64 (s.c : Nat), .int .i64 (s.kin : Nat), .int .i64 (s.kout : Nat)]) (hi : RNd 3 s.K) (hl : tot 3 s.K ≤ 4000) (key : ByteArray) (hz : key.size ≤ maxLen) (hm : key ∈ s.K 2) :
    Calls Tryz.prog 367 #[.pointer (some ⟨e, 0, none⟩), .string key] w (QRet w e g cap x F (true, [], pushK s.K 2 key) [.int .i64 (s.c : Nat), .int .i64 (s.kin : Nat), .int .i64 (s.kout : Nat)]) := by
  have hn : ∀ i, i ≠ 2 → key ∉ s.K i := fun i h1 h => hi.dis 2 i (Ne.symm h1) _ hm h
  have k0 := H.k0
  have k1 := H.k1
  have HW := Lib.hid (ewhereQ H key hz)
  have HM := Lib.hid (And.intro hn hm)
  clear hn hm
  go_enter Tryz.func367, Tryz.ntmps367
  go_wp2_with fail
  refine HW.out.mono ?_
  rintro en w1 ⟨r, rfl, har, hf1⟩
  have hr : r = 2 := by
    obtain ⟨hn, hm⟩ := HM.out
    rcases har with ⟨i, hi4, rfl, hik⟩ | ⟨rfl, hno⟩
    · by_cases h : i = 2
      · subst h; rfl
      · exact absurd hik (hn i h)
    · exact absurd hm (hno 2)
  subst hr
  replace H := H.fr0 irokQ hf1
  replace k0 := H.k0
  replace k1 := H.k1
  have HF := Lib.hid hf1
  clear har HW
  clear hf1
  go_wp2_with fail
  refine (epushQ H (by omega) (r := 2) (by omega) key hz).mono ?_
  rintro en w2 ⟨rfl, heg⟩
  have HE := Lib.hid (heg.old HF.out)
  clear H k0 k1 heg
  go_wp2
  go_ret2
  obtain ⟨F', a, b, d⟩ := HE.out
  exact ⟨_, F', rfl, Gone.nil _ _, a, b, d, by intro b hb; simp [Value.ownBlock] at hb⟩
set_option maxRecDepth 100000 in
theorem qaccess0 (H : ERows IRepQ 3 209 w e g cap x F s.K [.int .i64 (s.c : Nat), .int .i64 (s.kin : Nat), .int .i64 (s.kout : Nat)]) (hi : RNd 3 s.K) (key : ByteArray) (hz : key.size ≤ maxLen) (hm : key ∈ s.K 0) :
    Calls Tryz.prog 367 #[.pointer (some ⟨e, 0, none⟩), .string key] w (QRet w e g cap x F (true, [], s.K) [.int .i64 (s.c : Nat), .int .i64 (s.kin : Nat), .int .i64 (s.kout : Nat)]) := by
  have hn : ∀ i, i ≠ 0 → key ∉ s.K i := fun i h1 h => hi.dis 0 i (Ne.symm h1) _ hm h
  have HE0 := Lib.hid H
  have k0 := H.k0
  have k1 := H.k1
  have HW := Lib.hid (ewhereQ H key hz)
  have HM := Lib.hid (And.intro hn hm)
  clear hn hm
  go_enter Tryz.func367, Tryz.ntmps367
  go_wp2_with fail
  refine HW.out.mono ?_
  rintro en w1 ⟨r, rfl, har, hf1⟩
  have hr : r = 0 := by
    obtain ⟨hn, hm⟩ := HM.out
    rcases har with ⟨i, hi4, rfl, hik⟩ | ⟨rfl, hno⟩
    · by_cases h : i = 0
      · subst h; rfl
      · exact absurd hik (hn i h)
    · exact absurd hm (hno 0)
  subst hr
  replace H := H.fr0 irokQ hf1
  replace k0 := H.k0
  replace k1 := H.k1
  have HF := Lib.hid hf1
  clear har HW
  clear hf1 H k0 k1
  go_wp2
  go_ret2
  obtain ⟨F', a, b, d⟩ := (EGo.refl HE0.out).fr irokQ HF.out
  exact ⟨_, F', rfl, Gone.nil _ _, a, b, d, by intro b hb; simp [Value.ownBlock] at hb⟩
set_option maxRecDepth 100000 in
theorem qaccess1 (H : ERows IRepQ 3 209 w e g cap x F s.K [.int .i64 (s.c : Nat), .int .i64 (s.kin : Nat), .int .i64 (s.kout : Nat)]) (hi : RNd 3 s.K) (hc2 : s.c ≤ 1024) (hl : tot 3 s.K ≤ 4000) (key : ByteArray) (hz : key.size ≤ maxLen) (hm : key ∈ s.K 1)
    (hl2 : tot 3 ({ s with K := dropK s.K key } : Twoq).reclaim.2.K ≤ 4000) :
    Calls Tryz.prog 367 #[.pointer (some ⟨e, 0, none⟩), .string key] w (QRet w e g cap x F (false, ({ s with K := dropK s.K key } : Twoq).reclaim.1, pushK ({ s with K := dropK s.K key } : Twoq).reclaim.2.K 2 key) [.int .i64 (s.c : Nat), .int .i64 (s.kin : Nat), .int .i64 (s.kout : Nat)]) := by
  have hn : ∀ i, i ≠ 1 → key ∉ s.K i := fun i h1 h => hi.dis 1 i (Ne.symm h1) _ hm h
  have hdt := tot_drop 3 s.K key
  have k0 := H.k0
  have k1 := H.k1
  have HW := Lib.hid (ewhereQ H key hz)
  have HM := Lib.hid (And.intro hn hm)
  clear hn hm
  go_enter Tryz.func367, Tryz.ntmps367
  go_wp2_with fail
  refine HW.out.mono ?_
  rintro en w1 ⟨r, rfl, har, hf1⟩
  have hr : r = 1 := by
    obtain ⟨hn, hm⟩ := HM.out
    rcases har with ⟨i, hi4, rfl, hik⟩ | ⟨rfl, hno⟩
    · by_cases h : i = 1
      · subst h; rfl
      · exact absurd hik (hn i h)
    · exact absurd hm (hno 1)
  subst hr
  replace H := H.fr0 irokQ hf1
  replace k0 := H.k0
  replace k1 := H.k1
  have HF := Lib.hid hf1
  clear har HW
  clear hf1
  go_wp2_with fail
  refine (edropQ H (by omega) key hz).mono ?_
  rintro en w2 ⟨rfl, F2, H2, hs2, hg2⟩
  clear H k0 k1
  have HD := Lib.hid (And.intro hs2 hg2)
  clear hs2 hg2
  go_wp2_with fail
  refine (qreclaims (s := { s with K := dropK s.K key }) H2 hc2 (by simp only; omega)).mono ?_
  clear H2
  rintro en w4 ⟨v, F4, rfl, hgo, H4, hs4, hg4, hd4⟩
  obtain ⟨va, vc, hv⟩ := hgo.1.form
  subst hv
  have l0 := H4.k0
  have l1 := H4.k1
  have HG := Lib.hid (And.intro hgo (And.intro H4 (And.intro hs4 (And.intro hg4 hd4))))
  clear hgo H4 hs4 hg4 hd4
  go_wp2_with fail
  refine (epushQ HG.out.2.1 (by omega) (r := 2) (by omega) key hz).mono ?_
  rintro en w5 ⟨rfl, heg⟩
  obtain ⟨hgo, H4, hs4, hg4, hd4⟩ := HG.out
  obtain ⟨F5, i1, i2, i3, i4, i5⟩ := GRet.then (F2 := []) hgo hs4 hg4 hd4 heg
  have HE := Lib.hid (And.intro i1 (And.intro i2 (And.intro i3 (And.intro i4 i5))))
  clear l0 l1 HG hgo H4 hs4 hg4 hd4 heg i1 i2 i3 i4 i5
  go_wp2
  go_ret2
  obtain ⟨hs2, hg2⟩ := HD.out
  have hs2' := hs2.old HF.out.size
  have hg2' := HF.out.nil.same hg2
  exact ⟨_, F5, rfl, HE.out.1.old hg2'.size, HE.out.2.1, hs2'.fr hg2' HE.out.2.2.1, hg2'.via hs2' HE.out.2.2.2.1, HE.out.2.2.2.2⟩
set_option maxRecDepth 100000 in
theorem qaccessN (H : ERows IRepQ 3 209 w e g cap x F s.K [.int .i64 (s.c : Nat), .int .i64 (s.kin : Nat), .int .i64 (s.kout : Nat)]) (hi : RNd 3 s.K) (hc2 : s.c ≤ 1024) (hl : tot 3 s.K ≤ 4000) (key : ByteArray) (hz : key.size ≤ maxLen) (hno : ∀ i, key ∉ s.K i)
    (hl2 : tot 3 s.reclaim.2.K ≤ 4000) :
    Calls Tryz.prog 367 #[.pointer (some ⟨e, 0, none⟩), .string key] w (QRet w e g cap x F (false, s.reclaim.1, pushK s.reclaim.2.K 0 key) [.int .i64 (s.c : Nat), .int .i64 (s.kin : Nat), .int .i64 (s.kout : Nat)]) := by
  have k0 := H.k0
  have k1 := H.k1
  have HW := Lib.hid (ewhereQ H key hz)
  have HM := Lib.hid hno
  clear hno
  go_enter Tryz.func367, Tryz.ntmps367
  go_wp2_with fail
  refine HW.out.mono ?_
  rintro en w1 ⟨r, rfl, har, hf1⟩
  have hr : r = -1 := by
    rcases har with ⟨i, hi4, rfl, hik⟩ | ⟨rfl, hno⟩
    · exact absurd hik (HM.out i)
    · rfl
  subst hr
  replace H := H.fr0 irokQ hf1
  have HF := Lib.hid hf1
  clear har HW hf1 k0 k1
  go_wp2_with fail
  refine (qreclaims H hc2 (by omega)).mono ?_
  clear H
  rintro en w4 ⟨v, F4, rfl, hgo, H4, hs4, hg4, hd4⟩
  obtain ⟨va, vc, hv⟩ := hgo.1.form
  subst hv
  have l0 := H4.k0
  have l1 := H4.k1
  have HG := Lib.hid (And.intro hgo (And.intro H4 (And.intro hs4 (And.intro hg4 hd4))))
  clear hgo H4 hs4 hg4 hd4
  go_wp2_with fail
  refine (epushQ HG.out.2.1 (by omega) (r := 0) (by omega) key hz).mono ?_
  rintro en w5 ⟨rfl, heg⟩
  obtain ⟨hgo, H4, hs4, hg4, hd4⟩ := HG.out
  obtain ⟨F5, i1, i2, i3, i4, i5⟩ := GRet.then (F2 := []) hgo hs4 hg4 hd4 heg
  have HE := Lib.hid (And.intro i1 (And.intro i2 (And.intro i3 (And.intro i4 i5))))
  clear l0 l1 HG hgo H4 hs4 hg4 hd4 heg i1 i2 i3 i4 i5
  go_wp2
  go_ret2
  exact ⟨_, F5, rfl, HE.out.1.old HF.out.size, HE.out.2.1, HE.out.2.2.1.old HF.out.size, HF.out.nil.same HE.out.2.2.2.1, HE.out.2.2.2.2⟩
end
theorem qaccess {w : World} {e : Nat} {F : List Nat} {s : Twoq} (H : EQ w e F s) (key : ByteArray) (hz : key.size ≤ maxLen) :
    Calls Tryz.prog 367 #[.pointer (some ⟨e, 0, none⟩), .string key] w (AccRet EQ w e F (s.access key)) := by
  obtain ⟨hi, g, cap, x, h⟩ := H
  have hinv := hi.access hz
  have tl : ∀ s' : Twoq, s'.Inv → tot 3 s'.K ≤ 4000 := fun s' h' => by
    have a := h'.res
    have b := h'.out
    have d := h'.c2
    rw [tot3]; unfold Twoq.kout at b; omega
  have hl := tl s hi
  have hr : Calls Tryz.prog 367 #[.pointer (some ⟨e, 0, none⟩), .string key] w (QRet w e g cap x F ((s.access key).1, (s.access key).2.1, (s.access key).2.2.K) [.int .i64 (s.c : Nat), .int .i64 (s.kin : Nat), .int .i64 (s.kout : Nat)]) := by
    unfold Twoq.access
    by_cases h2 : key ∈ s.K 2
    · rw [if_pos h2]; exact qaccess2 h hi.nd hl key hz h2
    rw [if_neg h2]
    by_cases h0 : key ∈ s.K 0
    · rw [if_pos h0]; exact qaccess0 h hi.nd key hz h0
    rw [if_neg h0]
    by_cases h1 : key ∈ s.K 1
    · rw [if_pos h1]
      have hd := drop_len_in hi.nd h1
      have d0 := hd 0
      have d1 := hd 1
      have d2 := hd 2
      simp at d0 d1 d2
      have i2 : ({ s with K := dropK s.K key } : Twoq).Inv := ⟨hi.nd.drop _, hi.c1, hi.c2, by have := hi.res; simp only; omega, by have := hi.out; simp only [Twoq.kout] at this ⊢; omega⟩
      exact qaccess1 h hi.nd hi.c2 hl key hz h1 (tl _ i2.reclaim.1)
    · rw [if_neg h1]
      refine qaccessN h hi.nd hi.c2 hl key hz (not_rows hi.nd fun i hi4 => ?_) (tl _ hi.reclaim.1)
      have : i = 0 ∨ i = 1 ∨ i = 2 := by omega
      rcases this with rfl | rfl | rfl <;> assumption
  refine hr.mono ?_
  rintro en w' ⟨v, F', a, b, d, i, j, k⟩
  have hc : (s.access key).2.2.c = s.c := by unfold Twoq.access; (repeat' split) <;> rfl
  refine ⟨v, F', a, b, ⟨hinv, g, cap, x, ?_⟩, i, j, k⟩
  simp only [Twoq.kin, Twoq.kout] at d ⊢
  rw [hc]
  exact d
def Twoq.new (room : Int) : Twoq := ⟨fun _ => [], roomN room⟩
theorem Twoq.Inv.new (room : Int) : (Twoq.new room).Inv := by
  obtain ⟨h1, h2⟩ := roomN_bd room
  exact ⟨RNd.nil 3, h1, h2, by simp [Twoq.new], by simp [Twoq.new]⟩
theorem qnew_ret {w w1 : World} {room v v1 v2 : Int} {F1 : List Nat} {g cap x : Nat} (hr : RRep IRepQ 3 w1 (.agg #[.slice (some ⟨g, 0, none⟩) 3 cap, .pointer (some ⟨x, 0, none⟩)]) F1 (fun _ => [])) (hge : Ge w.heap.size F1) (hf1 : Fr [] w w1) (hv : (roomN room : Int) = v)
    (hv1 : ((max 1 (roomN room / 4) : Nat) : Int) = v1) (hv2 : ((max 1 (roomN room / 2) : Nat) : Int) = v2) :
    NewRet EQ w (Twoq.new room) (.returned (.pointer (some ⟨w1.heap.size, 0, none⟩))) (w1.alloc (.cells #[.slice (some ⟨g, 0, none⟩) 3 cap, .pointer (some ⟨x, 0, none⟩), .int .i64 v, .int .i64 v1, .int .i64 v2] 209)) := by
  subst hv hv1 hv2
  refine ⟨w1.heap.size, w1.heap.size :: F1, rfl, ⟨Twoq.Inv.new room, g, cap, x, F1, rfl, fun h => ?_, block_alloc_new _ _, hr.fr irokQ ((Fr.refl [] _).alloc _) (fun b _ => by simp)⟩, ?_, hf1.alloc _⟩
  · have := hr.lt irokQ _ h; omega
  · intro b hb
    rcases List.mem_cons.1 hb with rfl | hb
    · exact hf1.size
    · exact hge b hb
set_option maxRecDepth 100000 in
theorem qnew (w : World) (room : Int) (h0 : -9223372036854775808 ≤ room) (h1 : room ≤ 9223372036854775807) : Calls Tryz.prog 104 #[.int .i64 room] w (NewRet EQ w (Twoq.new room)) := by
  go_enter Tryz.func104, Tryz.ntmps104
  go_wp2_with fail
  all_goals
    refine (rnewQ _).mono ?_
    rintro en w1 ⟨v, F1, rfl, hr, hge, hf1⟩
    obtain ⟨g, cap, x, rfl, hgl⟩ := hr.form
    have HX := Lib.hid (And.intro hr (And.intro hge hf1))
    clear hr hge hf1
  all_goals go_wp2
  all_goals
    go_ret
    obtain ⟨hr, hge, hf1⟩ := HX.out
    refine qnew_ret hr hge hf1 ?_ ?_ ?_
  all_goals
    unfold roomN
    first | omega | (split <;> omega)
end Go.Proofs.YtphlancijlljcaaGreat
