/- The walks over package sketch: Add, New. -/
import Derived.Test.YtphlancijlljcaaGreatG4
import Derived.Test.YtphlancijlljcaaGreatG9
import Derived.Test.YtphlancijlljcaaGreatS3d
set_option linter.unusedVariables false
set_option linter.unusedSimpArgs false
namespace Go.Proofs.YtphlancijlljcaaGreat
open Go.RowKit
attribute [local go_sem ↓] Go.wp_at_zero Go.wp_at_succ
theorem ix4_0 (a b c d : Int) (w : World) : (Instr.index 291 (.agg #[.int .i64 a, .int .i64 b, .int .i64 c, .int .i64 d]) (.int .i64 0)).run Tryz.prog w = .ok (.int .i64 a) w := by kernel_rfl
theorem ix4_1 (a b c d : Int) (w : World) : (Instr.index 291 (.agg #[.int .i64 a, .int .i64 b, .int .i64 c, .int .i64 d]) (.int .i64 1)).run Tryz.prog w = .ok (.int .i64 b) w := by kernel_rfl
theorem ix4_2 (a b c d : Int) (w : World) : (Instr.index 291 (.agg #[.int .i64 a, .int .i64 b, .int .i64 c, .int .i64 d]) (.int .i64 2)).run Tryz.prog w = .ok (.int .i64 c) w := by kernel_rfl
theorem ix4_3 (a b c d : Int) (w : World) : (Instr.index 291 (.agg #[.int .i64 a, .int .i64 b, .int .i64 c, .int .i64 d]) (.int .i64 3)).run Tryz.prog w = .ok (.int .i64 d) w := by kernel_rfl
theorem ix4 (a b c d : Int) (f : Nat → Int) (h0 : f 0 = a) (h1 : f 1 = b) (h2 : f 2 = c) (h3 : f 3 = d) (i : Nat) (hi : i < 4) (w : World) : (Instr.index 291 (.agg #[.int .i64 a, .int .i64 b, .int .i64 c, .int .i64 d]) (.int .i64 (i : Nat))).run Tryz.prog w = .ok (.int .i64 (f i)) w := by
 have : i = 0 ∨ i = 1 ∨ i = 2 ∨ i = 3 := by omega
 subst h0 h1 h2 h3
 rcases this with rfl | rfl | rfl | rfl
 ·exact ix4_0 _ _ _ _ w
 ·exact ix4_1 _ _ _ _ w
 ·exact ix4_2 _ _ _ _ w
 ·exact ix4_3 _ _ _ _ w
set_option maxRecDepth 100000 in
set_option maxHeartbeats 1000000 in
theorem kadd {w : World} {p g m : Nat} {bs : List Nat} {s : Sk} (H : KRaw w p g m bs s) (hi : s.Inv) (key : ByteArray) (hk : key.size ≤ maxLen) :
  Calls Tryz.prog 413 #[.pointer (some ⟨p, 0, none⟩), .string key] w fun en w' => en = .returned (.tuple #[]) ∧ (∃ bs', KRaw w' p g m bs' (s.add key)) ∧ Fr [p, g] w w' := by
 have hn8 := hi.n8
 have hn2 := hi.n2
 have hm2 := H.2.2.2.2.1
 have hne := H.1
 have hsl := hi.sum
 have HC := Lib.hid (kcount H hi key hk)
 have HP := Lib.hid fun (W : World) (f : Fr [] w W) => kplaces (H.fr f (by simp) (by simp)) (by omega) (by omega) key hk
 have HH := Lib.hid H
 have hlow : s.count key ≤ 15 := by have := hi.le (s.at key 0); have := count_le s key 0 (by omega); omega
 have HI := Lib.hid hi
 have HUP := Lib.hid (hi.up_le key)
 obtain ⟨low, hl⟩ : ∃ low, s.count key = low := ⟨_, rfl⟩
 have HL := Lib.hid hl
 rw [hl] at HC hlow
 by_cases h15 : low = 15
 ·subst h15
  have hadd : s.add key = s := by unfold Sk.add; rw [if_pos hl]
  rw [hadd]
  clear hi H hadd hl
  go_enter Tryz.func413, Tryz.ntmps413
  go_wp2_with fail
  refine HC.out.mono ?_
  rintro en w1 ⟨rfl, hf⟩
  go_wp2
  refine bodyPost_ret (v := .tuple #[]) (by simp [results, Tryz.results413, go_sem]) rfl ?_
  exact ⟨rfl, ⟨bs, HH.out.fr hf (by simp) (by simp)⟩, hf.nil⟩
 ·have hadd : s.add key = if s.sum + 1 = 10 * s.n then (s.up key).halve else s.up key := by unfold Sk.add; rw [if_neg (by rw [hl]; exact h15)]
  have b15 : ((low : Int) == 15) = false := by rw [beq_eq_false_iff_ne]; omega
  have hix := ix4 (s.at key 0 : Nat) (s.at key 1 : Nat) (s.at key 2 : Nat) (s.at key 3 : Nat) (fun i => ((s.at key i : Nat) : Int)) rfl rfl rfl rfl
  have HIX := Lib.hid hix
  have HADD := Lib.hid hadd
  clear hi H hadd hl hix
  go_enter Tryz.func413, Tryz.ntmps413
  go_wp2_with fail
  refine HC.out.mono ?_
  rintro en w1 ⟨rfl, hf1⟩
  have HF1 := Lib.hid hf1
  clear hf1
  go_wp2_with fail
  refine (HP.out _ HF1.out).mono ?_
  rintro en w2 ⟨rfl, hf2⟩
  have HF2 := Lib.hid (HF1.out.same hf2)
  clear hf2
  go_wp2_with fail
  go_loopw [18] (fun u18 wr => ∃ (i : Nat) (bs' : List Nat), i ≤ 4 ∧ u18 = .int .i64 i ∧ Hid (KRaw wr p g m bs' (s.upK key i)) ∧ Fr [g] w wr) (fun u18 _ => 4 - (intOf u18).toNat)
  case atStart =>
   refine ⟨0, bs, Nat.zero_le _, rfl, (HH.out.fr HF2.out (by simp) (by simp)).congr rfl rfl (fun j _ => ?_), HF2.out.nil⟩
   simp [Sk.upK, Sk.isAtK]
  case round =>
   obtain ⟨i, bs', hi, rfl, hk, hf⟩ := hrel
   by_cases hlt : i < 4
   ·have q1 : (i : Int) < 4 := by omega
    have hbd := at_bd s key i (by omega)
    have hmul : (i + 1) * s.n ≤ 4 * s.n := Nat.mul_le_mul_right _ (by omega)
    have hx := HIX.out i hlt
    have hnew := at_new s key i (by omega)
    have hcell : (s.upK key i).cell (s.at key i) = s.cell (s.at key i) := by
     show (if _ then _ else _) = _
     rw [hnew]; simp
    obtain ⟨c, hc⟩ : ∃ c, s.cell (s.at key i) = c := ⟨_, rfl⟩
    have hcl := count_le s key i hlt
    have hc15 := HI.out.le (s.at key i)
    rw [HL.out] at hcl
    obtain ⟨q, hq⟩ : ∃ q, s.at key i = q := ⟨_, rfl⟩
    have ka := kat hk.out (by omega) q (by rw [← hq]; show _ < 4 * s.n; omega)
    have ks := fun (v : Nat) (hv : v ≤ 15) => kset hk.out (by omega) q (by rw [← hq]; show _ < 4 * s.n; omega) v hv
    have hstep : ∀ j, (s.upK key (i + 1)).cell j = if j = q ∧ c = low then low + 1 else (s.upK key i).cell j := by
     intro j
     show (if s.isAtK key (i + 1) j = true ∧ s.cell j = s.count key then s.count key + 1 else s.cell j) = if j = q ∧ c = low then low + 1 else (if s.isAtK key i j = true ∧ s.cell j = s.count key then s.count key + 1 else s.cell j)
     rw [isAtK_succ, HL.out, hq]
     by_cases e : j = q
     ·subst e
      rw [hq] at hnew hc
      rw [hnew, hc]
      simp
     ·simp [e]
    rw [hq] at hx hcell hc hcl hc15
    rw [hcell, hc] at ka
    rw [hc] at hcl hc15
    have HA := Lib.hid ka
    have HS := Lib.hid ks
    have HST := Lib.hid hstep
    have hf3 := Lib.hid hf
    clear ka ks hc hcell hnew hbd hmul hstep hq
    by_cases hcq : c = low
    ·subst hcq
     have hfi := fixIncI c 15 (by omega) (by omega)
     rw [if_neg (by omega)] at hfi
     have HFI := Lib.hid hfi
     clear hfi
     go_wp2_with fail
     refine HA.out.mono ?_
     rintro en w3 ⟨rfl, rfl⟩
     go_wp2_with fail
     refine (HFI.out _).mono ?_
     rintro en w3 ⟨rfl, rfl⟩
     go_wp2_with fail
     have e1 : (c : Int) + 1 = ((c + 1 : Nat) : Int) := by omega
     rw [e1]
     clear e1
     refine (HS.out (c + 1) (by omega)).mono ?_
     rintro en w4 ⟨rfl, ⟨bs2, hk2⟩, hf4⟩
     have fin : Hid (KRaw w4 p g m bs2 (s.upK key (i + 1))) := by
      refine hk2.congr rfl rfl (fun j _ => ?_)
      rw [HST.out j]
      simp
     have finF : Fr [g] w w4 := hf3.out.same hf4
     clear hk2 hf4
     go_wp2_with fail
     exact ⟨⟨i + 1, bs2, by omega, by go_num, fin, finF⟩, by simp [intOf]; omega⟩
    ·have q2 : (low : Int) < (c : Int) := by omega
     go_wp2_with fail
     refine HA.out.mono ?_
     rintro en w3 ⟨rfl, rfl⟩
     have fin : Hid (KRaw wr p g m bs' (s.upK key (i + 1))) := by
      refine hk.out.congr rfl rfl (fun j _ => ?_)
      rw [HST.out j, if_neg (by intro h; exact hcq h.2)]
     go_wp2_with fail
     exact ⟨⟨i + 1, bs', by omega, by go_num, fin, hf⟩, by simp [intOf]; omega⟩
   ·have hi4 : i = 4 := by omega
    subst hi4
    have hup : KRaw (wr.setCell ⟨p, 2, none⟩ (.int .i64 (s.sum + 1 : Nat))) p g m bs' (s.up key) := by
     refine (hk.out.setSum (s.sum + 1)).congr rfl rfl (fun j _ => ?_)
     show (if s.isAt key j = true ∧ _ then _ else _) = if s.isAtK key 4 j = true ∧ _ then _ else _
     rw [isAtK_four]
    obtain ⟨h0, h1, h2⟩ := hk.out.head
    have hz := fun i => free_of_block hk.out.2.1 i
    have HF := Lib.hid hf
    replace h0 : wr.cell? ⟨p, 0, none⟩ = some (.int .i64 s.n) := h0
    replace h2 : wr.cell? ⟨p, 2, none⟩ = some (.int .i64 s.sum) := h2
    have HHV := Lib.hid fun (W : World) (f : Fr [] (wr.setCell ⟨p, 2, none⟩ (.int .i64 (s.sum + 1 : Nat))) W) => khalve (hup.fr f (by simp) (by simp)) hn8 hn2 (HUP.out (by rw [HL.out]; exact h15)) (show s.sum + 1 ≤ _ by omega)
    have hff : Fr [p, g] w (wr.setCell ⟨p, 2, none⟩ (.int .i64 (s.sum + 1 : Nat))) := (hf.mono (by intro b hb _; simp at hb; simp [hb])).setCell (by simp) _
    have HUPP := Lib.hid (And.intro hup hff)
    obtain ⟨n, hn⟩ : ∃ n, s.n = n := ⟨_, rfl⟩
    obtain ⟨sm, hsm⟩ : ∃ n, s.sum = n := ⟨_, rfl⟩
    rw [hn] at h0 hn8 hn2 hm2 hsl
    rw [hsm] at h2 hsl
    rw [hsm] at HHV HUPP
    have HE := Lib.hid (And.intro hn hsm)
    have hadd := HADD.out
    rw [hn, hsm] at hadd
    have HADD2 := Lib.hid hadd
    clear h1 hup hff hf hn hsm hadd hk HADD
    by_cases h10 : sm + 1 = 10 * n
    ·have q1 : ((sm : Int) + 1 == 10 * (n : Int)) = true := by rw [beq_iff_eq]; omega
     go_wp2
     go_quiet (fail)
     go_wp2_with fail
     refine (HHV.out _ ((Fr.refl [] _).drewN _)).mono ?_
     rintro en w5 ⟨rfl, hk5, hf5⟩
     go_wp2
     go_end0
     refine ⟨rfl, ?_, (HUPP.out.2.drewN _).same hf5⟩
     rw [HADD2.out, if_pos h10]; exact hk5
    ·have q1 : ((sm : Int) + 1 == 10 * (n : Int)) = false := by rw [beq_eq_false_iff_ne]; omega
     go_wp2
     go_quiet (fail)
     go_wp2
     go_end0
     refine ⟨rfl, ⟨bs', ?_⟩, HUPP.out.2.drewN _⟩
     rw [HADD2.out, if_neg h10]; exact HUPP.out.1.fr ((Fr.refl [] _).drewN _) (by simp) (by simp)
end Go.Proofs.YtphlancijlljcaaGreat

set_option linter.unusedVariables false
set_option linter.unusedSimpArgs false
namespace Go.Proofs.YtphlancijlljcaaGreat
open Go.RowKit
attribute [local go_sem ↓] Go.wp_at_zero Go.wp_at_succ
theorem infoU8 : (Tryz.prog.info? 5).map (fun i => (i.zero, i.size, i.bytes)) = some (some (.int .u8 0), 1, 1) := by kernel_rfl
theorem newB_raw (w : World) (m : Nat) (hm : m ≤ 1000000) : Sl (w.alloc (.cells (madeCells #[.int .u8 0] (m * 1)) 5)) 5 1 (.slice (some ⟨w.heap.size, 0, none⟩) m m) m (encB (List.replicate m 0)) := by
 have e := made_flat #[.int .u8 0] 1 rfl (by omega) m
 have h := Sl.built (size := 1) (e := 5) w (madeCells #[.int .u8 0] (m * 1)) m (by simp [madeCells]) (by unfold maxLen; omega)
 rw [e] at h
 have e2 : ((List.range m).flatMap fun _ => (#[Value.int .u8 0] : Array Value).toList) = encB (List.replicate m 0) := by
  unfold encB
  rw [List.map_replicate]
  apply List.eq_replicate_iff.2
  refine ⟨by have := h.1; rw [Nat.mul_one] at this; exact this, ?_⟩
  intro b hb
  simp at hb
  exact hb.2
 rw [e2] at h
 exact h
theorem knew_ret {w : World} {m n : Nat} (hm : m = 2 * n) (hn : n ≤ 2048) : ∃ F, KRep ((w.alloc (.cells (madeCells #[.int .u8 0] (m * 1)) 5)).alloc (.cells #[.int .i64 n, .slice (some ⟨w.heap.size, 0, none⟩) m m, .int .i64 0] 262)) (w.heap.size + 1) F ⟨n, fun _ => 0, 0⟩ ∧
  Ge w.heap.size F ∧ Fr [] w ((w.alloc (.cells (madeCells #[.int .u8 0] (m * 1)) 5)).alloc (.cells #[.int .i64 n, .slice (some ⟨w.heap.size, 0, none⟩) m m, .int .i64 0] 262)) := by
 have b2 := block_alloc_new (w.alloc (.cells (madeCells #[.int .u8 0] (m * 1)) 5)) (.cells #[.int .i64 n, .slice (some ⟨w.heap.size, 0, none⟩) m m, .int .i64 0] 262)
 rw [World.size_alloc] at b2
 refine ⟨[w.heap.size + 1, w.heap.size], ⟨w.heap.size, m, List.replicate m 0, rfl, by omega, b2, (newB_raw w m (by omega)).fr ((Fr.refl [] _).alloc _) (fun b _ => by simp), by simp, hm, ?_, ?_⟩, by intro b hb; simp at hb; omega, ((Fr.refl [] w).alloc _).alloc _⟩
 ·intro x hx
  rw [(List.mem_replicate.1 hx).2]; decide
 ·intro j hj
  show 0 = nib _ _
  unfold nib
  rw [List.getElem?_replicate]
  split <;> split <;> simp
theorem pow2From_bd (r : Nat) : ∀ f a, a ≤ 2 * 1024 → r ≤ 1024 → pow2From r f a ≤ 2048 ∧ a ≤ pow2From r f a
 | 0, a, h, _ => ⟨h, Nat.le_refl _⟩
 | f + 1, a, h, hr => by
  unfold pow2From
  split
  ·have := pow2From_bd r f (a * 2) (by omega) hr; omega
  ·exact ⟨h, Nat.le_refl _⟩
theorem pow2From_ev (r : Nat) : ∀ f a, 2 ∣ a → 2 ∣ pow2From r f a
 | 0, a, h => h
 | f + 1, a, h => by
  unfold pow2From
  split
  ·exact pow2From_ev r f (a * 2) (by omega)
  ·exact h
theorem Sk.Inv.new {room : Nat} (h2 : room ≤ 1024) : (Sk.new room).Inv := by
 obtain ⟨a, b⟩ := pow2From_bd room 11 8 (by omega) h2
 have := pow2From_ev room 11 8 (by omega)
 exact ⟨b, a, this, fun _ => Nat.zero_le _, by show 0 < 10 * pow2From room 11 8; omega⟩
set_option maxRecDepth 100000 in
theorem knew (w : World) (room : Nat) (h1 : 1 ≤ room) (h2 : room ≤ 1024) : Calls Tryz.prog 168 #[.int .i64 room] w fun en w' => ∃ p F, en = .returned (.pointer (some ⟨p, 0, none⟩)) ∧ KRep w' p F (Sk.new room) ∧ Ge w.heap.size F ∧ Fr [] w w' := by
 obtain ⟨i0, hii, hz0, hz1, hz2⟩ := info_parts2 infoU8
 have hmk : ∀ (m : Nat) (v : Int), 1 ≤ m → m ≤ 10000 → v = m → (Instr.makeSlice 177 (.int .i64 v) (.int .i64 v)).run Tryz.prog w = .ok (.slice (some ⟨w.heap.size, 0, none⟩) m m) (w.alloc (.cells (madeCells #[.int .u8 0] (m * 1)) 5)) := by
  intro m v a b hv
  subst hv
  have hk := run_make (P := Tryz.prog) w 177 5 i0 _ Tryz.underlying177 hii hz0 .i64 .i64 m m (by omega) (Int.le_refl _) (by rw [hz2]; omega) (by omega)
  rw [hz1, Int.toNat_natCast] at hk
  exact hk
 obtain ⟨res, hres⟩ : ∃ r, pow2From room 11 8 = r := ⟨_, rfl⟩
 have hR : Sk.new room = ⟨res, fun _ => 0, 0⟩ := by unfold Sk.new; rw [hres]
 rw [hR]
 have HM := Lib.hid hmk
 have HS := Lib.hid hres
 clear hmk hres hR hz0
 go_enter Tryz.func168, Tryz.ntmps168
 go_wp2_with fail
 go_loopg [3] 11 (fun gg u3 wr => wr = w ∧ ∃ a : Nat, u3 = .int .i64 a ∧ Aside (pow2From room gg a = res ∧ room ≤ a * 2 ^ gg) ∧ 8 ≤ a ∧ a ≤ 2048)
 case atStart => exact ⟨rfl, 8, rfl, ⟨HS.out, by omega⟩, by omega, by omega⟩
 case round =>
  obtain ⟨rfl, a, rfl, hA, ha1, ha2⟩ := hrel
  by_cases hlt : a < room
  ·have q1 : (a : Int) < (room : Int) := by omega
   go_wp2_with fail
   refine (fixClamp1 room h1 h2 _).mono ?_
   rintro en w1 ⟨rfl, rfl⟩
   go_wp2_with fail
   have hgk : ∃ f, gk = f + 1 := by
    cases gk with
    | zero => exfalso; have := hA.out.2; simp at this; omega
    | succ f => exact ⟨f, rfl⟩
   obtain ⟨f, rfl⟩ := hgk
   have hA1 := hA.out.1
   unfold pow2From at hA1
   rw [if_pos hlt] at hA1
   go_roundg f
   case measure => omega
   case rel => exact ⟨rfl, a * 2, by go_num, ⟨hA1, by have := hA.out.2; rw [Nat.pow_succ] at this; rw [Nat.mul_assoc, Nat.mul_comm 2]; exact this⟩, by omega, by omega⟩
  ·have q1 : (room : Int) ≤ (a : Int) := by omega
   have hra : res = a := by rw [← hA.out.1]; exact pow2From_done hlt _
   have HRA := Lib.hid hra
   obtain ⟨m, hm⟩ : ∃ m, 2 * a = m := ⟨_, rfl⟩
   have hk := HM.out m (4 * (a : Int) / 2) (by omega) (by omega) (by omega)
   have HMM := Lib.hid hm
   clear hra hm
   go_wp2_with fail
   refine (fixClamp1 room h1 h2 _).mono ?_
   rintro en w1 ⟨rfl, rfl⟩
   go_wp2
   go_ret
   obtain ⟨F, b1, b2, b3⟩ := knew_ret (w := wr) (m := m) (n := a) HMM.out.symm ha2
   rw [HRA.out]
   rw [Nat.mul_one] at b1 b3
   exact ⟨_, F, rfl, b1, b2, b3⟩
end Go.Proofs.YtphlancijlljcaaGreat

set_option linter.unusedVariables false
set_option linter.unusedSimpArgs false
namespace Go.Proofs.YtphlancijlljcaaGreat
open Go.RowKit
attribute [local go_sem ↓] Go.wp_at_zero Go.wp_at_succ
theorem kcountR {w : World} {p : Nat} {F : List Nat} {s : Sk} (H : KRep w p F s) (hi : s.Inv) (key : ByteArray) (hk : key.size ≤ maxLen) :
  Calls Tryz.prog 421 #[.pointer (some ⟨p, 0, none⟩), .string key] w fun en w' => en = .returned (.int .i64 (s.count key : Nat)) ∧ Fr [] w w' := by
 obtain ⟨g, m, bs, rfl, h⟩ := H
 exact kcount h hi key hk
theorem ksumR {w : World} {p : Nat} {F : List Nat} {s : Sk} (H : KRep w p F s) : Calls Tryz.prog 412 #[.pointer (some ⟨p, 0, none⟩)] w fun en w' => en = .returned (.int .i64 (s.sum : Nat)) ∧ w = w' := by
 obtain ⟨g, m, bs, rfl, h⟩ := H
 exact ksum h
theorem kaddR {w : World} {p : Nat} {F : List Nat} {s : Sk} (H : KRep w p F s) (hi : s.Inv) (key : ByteArray) (hk : key.size ≤ maxLen) :
  Calls Tryz.prog 413 #[.pointer (some ⟨p, 0, none⟩), .string key] w fun en w' => en = .returned (.tuple #[]) ∧ KRep w' p F (s.add key) ∧ Fr F w w' := by
 obtain ⟨g, m, bs, rfl, h⟩ := H
 refine (kadd h hi key hk).mono ?_
 rintro en w' ⟨rfl, ⟨bs', h⟩, hf⟩
 exact ⟨rfl, ⟨g, m, bs', rfl, h⟩, hf⟩
theorem dhasR {w : World} {p : Nat} {F : List Nat} {d : Dr} (H : DRep w p F d) (hi : d.Inv) (key : ByteArray) (hk : key.size ≤ maxLen) :
  Calls Tryz.prog 419 #[.pointer (some ⟨p, 0, none⟩), .string key] w fun en w' => en = .returned (.bool (d.has key)) ∧ Fr [] w w' := by
 obtain ⟨g, m, ws, rfl, h⟩ := H
 have hn := h.2.2.2.2.1
 have h1 := hi.n64
 have h2 := hi.n2
 exact dhas h (by omega) (by omega) key hk
/-- What never changes of an engine. -/
structure UC where
 e : Nat
 g : Nat
 cap : Nat
 x : Nat
 kp : Nat
 dp : Nat
 c : Nat
 wi : Nat
 ma : Nat
 pr : Nat
/-- Three rows, a sketch, a door. -/
def UR (u : UC) (w : World) (F : List Nat) (K : Rows) (k : Sk) (d : Dr) : Prop :=
 ∃ F1 Fk Fd, F = F1 ++ (Fk ++ Fd) ∧ ERows IRepU 3 219 w u.e u.g u.cap u.x F1 K [.int .i64 (u.c : Nat), .int .i64 (u.wi : Nat), .int .i64 (u.ma : Nat), .int .i64 (u.pr : Nat), .pointer (some ⟨u.kp, 0, none⟩), .pointer (some ⟨u.dp, 0, none⟩)] ∧ KRep w u.kp Fk k ∧ DRep w u.dp Fd d ∧ Dis F1 Fk ∧ Dis F1 Fd ∧ Dis Fk Fd
def UGo (u : UC) (w : World) (F : List Nat) (K : Rows) (k : Sk) (d : Dr) (w' : World) : Prop := ∃ F', UR u w' F' K k d ∧ Sub F' F w ∧ Fr F w w'
section
variable {u : UC} {w w' w0 w1 w2 : World} {F F1 G : List Nat} {K : Rows} {k : Sk} {d : Dr}
theorem UR.fr (h : UR u w F K k d) (f : Fr G w w') (hd : Dis F G) : UR u w' F K k d := by
 obtain ⟨F1, Fk, Fd, rfl, a, b, c, d1, d2, d3⟩ := h
 exact ⟨F1, Fk, Fd, rfl, a.fr irokU f (fun q hq => hd q (by simp [hq])), b.fr f (fun q hq => hd q (by simp [hq])), c.fr f (fun q hq => hd q (by simp [hq])), d1, d2, d3⟩
theorem UR.fr0 (h : UR u w F K k d) (f : Fr [] w w') : UR u w' F K k d := h.fr f (fun b _ => by simp)
theorem UR.lt (h : UR u w F K k d) : Lt F w := by
 obtain ⟨F1, Fk, Fd, rfl, a, b, c, d1, d2, d3⟩ := h
 intro q hq
 simp at hq
 rcases hq with hq | hq | hq
 ·exact a.lt irokU q hq
 ·exact b.lt q hq
 ·exact c.lt q hq
theorem UGo.refl (h : UR u w F K k d) : UGo u w F K k d w := ⟨F, h, Sub.refl _ _, Fr.refl _ _⟩
theorem UGo.trans (h1 : Sub F1 F w) (h2 : Fr F w w1) (h : UGo u w1 F1 K k d w2) : UGo u w F K k d w2 := by
 obtain ⟨F', a1, a2, a3⟩ := h
 exact ⟨F', a1, h1.fr h2 a2, h2.via h1 a3⟩
theorem UGo.old (h : UGo u w F K k d w1) (f : Fr [] w0 w) : UGo u w0 F K k d w1 := by
 obtain ⟨F', h1, h2, h3⟩ := h
 exact ⟨F', h1, h2.old f.size, f.nil.same h3⟩
theorem UGo.fr (h : UGo u w F K k d w1) (f : Fr [] w1 w2) : UGo u w F K k d w2 := by
 obtain ⟨F', h1, h2, h3⟩ := h
 exact ⟨F', h1.fr0 f, h2, h3.same f.nil⟩
/-- The rows are changed. -/
theorem UR.rows {F1 Fk Fd : List Nat} {K' : Rows} (h2 : KRep w u.kp Fk k) (h3 : DRep w u.dp Fd d) (d1 : Dis F1 Fk) (d2 : Dis F1 Fd) (d3 : Dis Fk Fd) (g : EGo IRepU 3 219 w u.e u.g u.cap u.x F1 K' [.int .i64 (u.c : Nat), .int .i64 (u.wi : Nat), .int .i64 (u.ma : Nat), .int .i64 (u.pr : Nat), .pointer (some ⟨u.kp, 0, none⟩), .pointer (some ⟨u.dp, 0, none⟩)] w') : UGo u w (F1 ++ (Fk ++ Fd)) K' k d w' := by
 obtain ⟨F', a, b, f⟩ := g
 exact ⟨F' ++ (Fk ++ Fd), ⟨F', Fk, Fd, rfl, a, h2.fr f d1.symm, h3.fr f d2.symm, d1.sub b h2.lt, d2.sub b h3.lt, d3⟩, append_sub b, f.mono (fun q hq _ => by simp [hq])⟩
/-- The sketch, the door are changed. -/
theorem UR.setK {F1 Fk Fd : List Nat} {k' : Sk} (h1 : ERows IRepU 3 219 w u.e u.g u.cap u.x F1 K [.int .i64 (u.c : Nat), .int .i64 (u.wi : Nat), .int .i64 (u.ma : Nat), .int .i64 (u.pr : Nat), .pointer (some ⟨u.kp, 0, none⟩), .pointer (some ⟨u.dp, 0, none⟩)]) (h3 : DRep w u.dp Fd d) (d1 : Dis F1 Fk) (d2 : Dis F1 Fd) (d3 : Dis Fk Fd) (a : KRep w' u.kp Fk k') (f : Fr Fk w w') :
  UR u w' (F1 ++ (Fk ++ Fd)) K k' d ∧ Fr (F1 ++ (Fk ++ Fd)) w w' :=
 ⟨⟨F1, Fk, Fd, rfl, h1.fr irokU f d1, a, h3.fr f d3.symm, d1, d2, d3⟩, f.mono (fun q hq _ => by simp [hq])⟩
theorem UR.setD {F1 Fk Fd : List Nat} {d' : Dr} (h1 : ERows IRepU 3 219 w u.e u.g u.cap u.x F1 K [.int .i64 (u.c : Nat), .int .i64 (u.wi : Nat), .int .i64 (u.ma : Nat), .int .i64 (u.pr : Nat), .pointer (some ⟨u.kp, 0, none⟩), .pointer (some ⟨u.dp, 0, none⟩)]) (h2 : KRep w u.kp Fk k) (d1 : Dis F1 Fk) (d2 : Dis F1 Fd) (d3 : Dis Fk Fd) (a : DRep w' u.dp Fd d') (f : Fr Fd w w') :
  UR u w' (F1 ++ (Fk ++ Fd)) K k d' ∧ Fr (F1 ++ (Fk ++ Fd)) w w' :=
 ⟨⟨F1, Fk, Fd, rfl, h1.fr irokU f d2, h2.fr f d3, a, d1, d2, d3⟩, f.mono (fun q hq _ => by simp [hq])⟩
theorem UR.add (h : UR u w F K k d) (hd : d.Inv) (key : ByteArray) (hz : key.size ≤ maxLen) :
  Calls Tryz.prog 411 #[.pointer (some ⟨u.dp, 0, none⟩), .string key] w fun en w' => en = .returned (.bool (d.has key)) ∧ UR u w' F K k (d.add key) ∧ Fr F w w' := by
 obtain ⟨F1, Fk, Fd, rfl, a, b, c, d1, d2, d3⟩ := h
 refine (dadd hd c key hz).mono ?_
 rintro en w' ⟨rfl, h, f⟩
 exact ⟨rfl, UR.setD a b d1 d2 d3 h f⟩
theorem UR.clear (h : UR u w F K k d) (hd : d.Inv) :
  Calls Tryz.prog 414 #[.pointer (some ⟨u.dp, 0, none⟩)] w fun en w' => en = .returned (.tuple #[]) ∧ UR u w' F K k d.clear ∧ Fr F w w' := by
 obtain ⟨F1, Fk, Fd, rfl, a, b, c, d1, d2, d3⟩ := h
 refine (dclear hd c).mono ?_
 rintro en w' ⟨rfl, h, f⟩
 exact ⟨rfl, UR.setD a b d1 d2 d3 h f⟩
theorem UR.kadd (h : UR u w F K k d) (hk : k.Inv) (key : ByteArray) (hz : key.size ≤ maxLen) :
  Calls Tryz.prog 413 #[.pointer (some ⟨u.kp, 0, none⟩), .string key] w fun en w' => en = .returned (.tuple #[]) ∧ UR u w' F K (k.add key) d ∧ Fr F w w' := by
 obtain ⟨F1, Fk, Fd, rfl, a, b, c, d1, d2, d3⟩ := h
 refine (kaddR b hk key hz).mono ?_
 rintro en w' ⟨rfl, h, f⟩
 exact ⟨rfl, UR.setK a c d1 d2 d3 h f⟩
theorem UR.ksum (h : UR u w F K k d) : Calls Tryz.prog 412 #[.pointer (some ⟨u.kp, 0, none⟩)] w fun en w' => en = .returned (.int .i64 (k.sum : Nat)) ∧ w = w' := by
 obtain ⟨F1, Fk, Fd, rfl, a, b, c, d1, d2, d3⟩ := h
 exact ksumR b
theorem UR.er (h : UR u w F K k d) : ∃ F1, ERows IRepU 3 219 w u.e u.g u.cap u.x F1 K [.int .i64 (u.c : Nat), .int .i64 (u.wi : Nat), .int .i64 (u.ma : Nat), .int .i64 (u.pr : Nat), .pointer (some ⟨u.kp, 0, none⟩), .pointer (some ⟨u.dp, 0, none⟩)] := by
 obtain ⟨F1, Fk, Fd, rfl, a, b, c, d1, d2, d3⟩ := h
 exact ⟨F1, a⟩
theorem UR.cells (h : UR u w F K k d) : w.cell? ⟨u.e, 0, none⟩ = some (.slice (some ⟨u.g, 0, none⟩) 3 u.cap) ∧ w.cell? ⟨u.e, 1, none⟩ = some (.pointer (some ⟨u.x, 0, none⟩)) ∧ w.cell? ⟨u.e, 2, none⟩ = some (.int .i64 (u.c : Nat)) ∧ w.cell? ⟨u.e, 3, none⟩ = some (.int .i64 (u.wi : Nat)) ∧
  w.cell? ⟨u.e, 4, none⟩ = some (.int .i64 (u.ma : Nat)) ∧ w.cell? ⟨u.e, 5, none⟩ = some (.int .i64 (u.pr : Nat)) ∧ w.cell? ⟨u.e, 6, none⟩ = some (.pointer (some ⟨u.kp, 0, none⟩)) ∧ w.cell? ⟨u.e, 7, none⟩ = some (.pointer (some ⟨u.dp, 0, none⟩)) := by
 obtain ⟨F1, h⟩ := h.er
 exact ⟨h.k0, h.k1, h.kr0, h.kr1, h.kr2, h.kr3, h.kr4, h.kr5⟩
def noteK (k : Sk) (d : Dr) (key : ByteArray) : Sk := if d.has key = false then k else k.add key
def noteD (k : Sk) (d : Dr) (key : ByteArray) : Dr := if d.has key = false then d.add key else if (k.add key).sum < k.sum then (d.add key).clear else d.add key
set_option maxRecDepth 100000 in
theorem unotes (H : UR u w F K k d) (hk : k.Inv) (hd : d.Inv) (key : ByteArray) (hz : key.size ≤ maxLen) :
  Calls Tryz.prog 401 #[.pointer (some ⟨u.e, 0, none⟩), .string key] w fun en w' => en = .returned (.tuple #[]) ∧ UR u w' F (K := K) (noteK k d key) (noteD k d key) ∧ Fr F w w' := by
 obtain ⟨_, _, _, _, _, _, k6, k7⟩ := H.cells
 have HA := Lib.hid (H.add hd key hz)
 have HK := Lib.hid hk
 have HDI := Lib.hid (show (d.add key).Inv from ⟨hd.n64, hd.n2, hd.ev⟩)
 obtain ⟨b, hb⟩ : ∃ b, d.has key = b := ⟨_, rfl⟩
 rw [hb] at HA
 unfold noteK noteD
 rw [hb]
 clear H hk hd hb
 cases b with
 | false =>
  go_enter Tryz.func401, Tryz.ntmps401
  go_wp2_with fail
  refine HA.out.mono ?_
  rintro en w1 ⟨rfl, h1, f1⟩
  have HX := Lib.hid (And.intro h1 f1)
  clear h1 f1
  go_wp2
  refine bodyPost_ret (v := .tuple #[]) (by simp [results, Tryz.results401, go_sem]) rfl ?_
  exact ⟨rfl, HX.out⟩
 | true =>
  obtain ⟨s0, hs0⟩ : ∃ n, k.sum = n := ⟨_, rfl⟩
  obtain ⟨s1, hs1⟩ : ∃ n, (k.add key).sum = n := ⟨_, rfl⟩
  have HS := Lib.hid (And.intro hs0 hs1)
  simp only [Bool.true_eq_false, if_false]
  rw [hs0, hs1]
  obtain ⟨dd, hdd⟩ : ∃ dd, (if s1 < s0 then (d.add key).clear else d.add key) = dd := ⟨_, rfl⟩
  rw [hdd]
  have HDD := Lib.hid hdd
  clear hs0 hs1 hdd
  go_enter Tryz.func401, Tryz.ntmps401
  go_wp2_with fail
  refine HA.out.mono ?_
  rintro en w1 ⟨rfl, h1, f1⟩
  obtain ⟨_, _, _, _, _, _, k6, k7⟩ := h1.cells
  have H1 := Lib.hid (And.intro h1 f1)
  clear h1 f1
  go_wp2_with fail
  refine H1.out.1.ksum.mono ?_
  rintro en w1' ⟨rfl, rfl⟩
  rw [HS.out.1]
  go_wp2_with fail
  refine (H1.out.1.kadd HK.out key hz).mono ?_
  rintro en w2 ⟨rfl, h2, f2⟩
  obtain ⟨_, _, _, _, _, _, k6, k7⟩ := h2.cells
  have H2 := Lib.hid (And.intro h2 (H1.out.2.same f2))
  clear h2 f2
  go_wp2_with fail
  refine H2.out.1.ksum.mono ?_
  rintro en w2' ⟨rfl, rfl⟩
  rw [HS.out.2]
  by_cases hlt : s1 < s0
  ·have q1 : (s1 : Int) < (s0 : Int) := by omega
   go_wp2_with fail
   refine (H2.out.1.clear HDI.out).mono ?_
   rintro en w3 ⟨rfl, h3, f3⟩
   have H3 := Lib.hid (And.intro h3 (H2.out.2.same f3))
   clear h3 f3
   go_wp2
   go_end0
   rw [← HDD.out, if_pos hlt]
   exact ⟨rfl, H3.out⟩
  ·have q1 : (s0 : Int) ≤ (s1 : Int) := by omega
   go_wp2
   go_end0
   rw [← HDD.out, if_neg hlt]
   exact ⟨rfl, H2.out⟩
set_option maxRecDepth 100000 in
theorem uoften (H : UR u w F K k d) (hk : k.Inv) (hd : d.Inv) (key : ByteArray) (hz : key.size ≤ maxLen) {n : Nat} (hn : k.count key + (d.has key).toNat = n) :
  Calls Tryz.prog 417 #[.pointer (some ⟨u.e, 0, none⟩), .string key] w fun en w' => en = .returned (.int .i64 (n : Nat)) ∧ Fr [] w w' := by
 obtain ⟨_, _, _, _, _, _, k6, k7⟩ := H.cells
 have hc15 : k.count key ≤ 15 := by have := hk.le (k.at key 0); have := count_le k key 0 (by omega); omega
 obtain ⟨F1, Fk, Fd, rfl, a, b, c, d1, d2, d3⟩ := H
 have HC := Lib.hid (kcountR b hk key hz)
 have HD := Lib.hid fun (W : World) (f : Fr [] w W) => dhasR (c.fr f (fun b _ => by simp)) hd key hz
 obtain ⟨h, hh⟩ : ∃ h, d.has key = h := ⟨_, rfl⟩
 obtain ⟨cn, hcn⟩ : ∃ h, k.count key = h := ⟨_, rfl⟩
 rw [hh] at HD hn
 rw [hcn] at HC hn hc15
 subst hn
 clear a b c d1 d2 d3 hk hd hh hcn
 cases h
 all_goals
  go_enter Tryz.func417, Tryz.ntmps417
  go_wp2_with fail
  refine HC.out.mono ?_
  rintro en w1 ⟨rfl, f1⟩
  have k7 := cell_fr f1 k7 (by simp)
  have HF := Lib.hid f1
  clear f1
  go_wp2_with fail
  refine (HD.out _ HF.out).mono ?_
  rintro en w2 ⟨rfl, f2⟩
  have HF := Lib.hid (HF.out.same f2)
  clear f2
  go_wp2
  go_ret
  exact ⟨by simp, HF.out⟩
end
end Go.Proofs.YtphlancijlljcaaGreat

set_option linter.unusedVariables false
set_option linter.unusedSimpArgs false
namespace Go.Proofs.YtphlancijlljcaaGreat
open Go.RowKit
attribute [local go_sem ↓] Go.wp_at_zero Go.wp_at_succ
def vict (K : Rows) : Nat := if 0 < (K 1).length then 1 else if 0 < (K 2).length then 2 else 0
section
variable {u : UC} {w : World} {F : List Nat} {K : Rows} {k : Sk} {d : Dr}
set_option maxRecDepth 100000 in
theorem uvictim (H : UR u w F K k d) (hl : tot 3 K ≤ 80000) {v : Nat} (hv : vict K = v) {b : Bool} (hb : decide (v ≠ 0) = b) :
  Calls Tryz.prog 407 #[.pointer (some ⟨u.e, 0, none⟩)] w fun en w' => en = .returned (.tuple #[.int .i64 (v : Nat), .bool b]) ∧ Fr [] w w' := by
 obtain ⟨F1, h⟩ := H.er
 have k0 := h.k0
 have k1 := h.k1
 have HM := Lib.hid fun (W : World) (f : Fr [] w W) (a : Nat) (ha : a < 3) => emany1U (h.fr0 irokU f) a ha (s := (K a).length) rfl (T0 := 3)
 have HV := Lib.hid (And.intro hv hb)
 have HL := Lib.hid hl
 have hel := h.lt irokU u.e (by obtain ⟨F', rfl, _⟩ := h; simp)
 clear H h hv hb hl
 go_enter Tryz.func407, Tryz.ntmps407
 go_wp2_with fail
 have hW : Fr [] w (w.alloc (.cells #[.int .i64 1, .int .i64 2] 3)) := (Fr.refl [] w).alloc _
 have kb := cell_of_block (block_alloc_new w (.cells #[.int .i64 1, .int .i64 2] 3))
 have k0 := cell_fr hW k0 (by simp)
 have k1 := cell_fr hW k1 (by simp)
 have HB := Lib.hid kb
 have HW := Lib.hid hW
 clear kb hW
 generalize w.alloc (.cells #[.int .i64 1, .int .i64 2] 3) = W at *
 go_loopg [8] 2 (fun gg u8 wr => ∃ i : Nat, u8 = .int .i64 i ∧ i + gg = 2 ∧ Fr [] W wr ∧ Aside (∀ j, j < i → (K (j + 1)).length = 0))
 case atStart => exact ⟨0, rfl, rfl, Fr.refl _ _, fun j h => by omega⟩
 case round =>
  obtain ⟨i, rfl, hi, hf, hA⟩ := hrel
  have k0 := cell_fr hf k0 (by simp)
  have k1 := cell_fr hf k1 (by simp)
  by_cases hlt : i < 2
  ·have q1 : (i : Int) < 2 := by omega
   obtain ⟨a, ha⟩ : ∃ a, i + 1 = a := ⟨_, rfl⟩
   have x0 : wr.cell? ⟨w.heap.size, i, none⟩ = some (.int .i64 (a : Nat)) := by
    refine cell_fr hf ?_ (by simp)
    rw [HB.out]
    have : i = 0 ∨ i = 1 := by omega
    rcases this with rfl | rfl <;> (subst ha; rfl)
   have HM2 := HM.out _ (HW.out.same hf) a (by omega)
   have hlen := len_tot (K := K) (k := 3) (i := a) (by omega)
   have hl := HL.out
   obtain ⟨n, hn⟩ : ∃ n, (K a).length = n := ⟨_, rfl⟩
   rw [hn] at HM2 hlen
   have HM2 := Lib.hid HM2
   have HN := Lib.hid hn
   have HI := Lib.hid ha
   have HF := Lib.hid hf
   clear hn ha hf
   by_cases hn0 : 0 < n
   ·have q2 : (0 : Int) < (n : Int) := by omega
    go_wp2_with fail
    refine HM2.out.mono ?_
    rintro en w2 ⟨rfl, f2⟩
    have HG := Lib.hid f2
    clear f2
    go_wp2
    go_ret2
    have hva : v = a := by
     rw [← HV.out.1]
     have h1 := HN.out
     have h2 := HI.out
     unfold vict
     have : i = 0 ∨ i = 1 := by omega
     rcases this with rfl | rfl
     ·subst h2; simp at h1; rw [if_pos (by omega)]
     ·subst h2
      have := hA.out 0 (by omega)
      simp at this h1
      rw [if_neg (by simp [this]), if_pos (by omega)]
    have hbt : b = true := by rw [← HV.out.2, hva]; have := HI.out; simp; omega
    subst hva hbt
    exact ⟨rfl, (HW.out.same HF.out).same HG.out⟩
   ·have hn1 : n = 0 := by omega
    subst hn1
    go_wp2_with fail
    refine HM2.out.mono ?_
    rintro en w2 ⟨rfl, f2⟩
    have HG := Lib.hid f2
    clear f2
    go_wp2
    go_roundg (1 - i)
    case measure => omega
    case rel =>
     refine ⟨i + 1, by go_num, by omega, HF.out.same HG.out, fun j hj => ?_⟩
     by_cases e : j = i
     ·subst e; rw [HI.out]; exact HN.out
     ·exact hA.out j (by omega)
  ·have hi2 : i = 2 := by omega
   subst hi2
   have HF := Lib.hid hf
   clear hf
   go_wp2
   go_ret2
   have h1 := hA.out 0 (by omega)
   have h2 := hA.out 1 (by omega)
   have hv0 : v = 0 := by
    rw [← HV.out.1]
    unfold vict
    simp at h1 h2
    rw [if_neg (by simp [h1]), if_neg (by simp [h2])]
   have hbf : b = false := by rw [← HV.out.2, hv0]; simp
   subst hv0 hbf
   exact ⟨rfl, HW.out.same HF.out⟩
end
end Go.Proofs.YtphlancijlljcaaGreat
