/- Texts of a proof about the given program, those parts that this claim reaches. -/
import Derived.Test.YtfeicmpbfbhiiaaGreatPEg16
import Derived.Test.YtfeicmpbfbhiiaaGreatPEg00
import Derived.Test.YtfeicmpbfbhiiaaGreatPEg03
import Derived.Test.YtfeicmpbfbhiiaaGreatPEg02
import Derived.Lib.SliceRun
import Derived.Test.YtfeicmpbfbhiiaaGreatPEg06
set_option linter.unusedVariables false
set_option linter.unusedSimpArgs false
namespace Go.Proofs.YtfeicmpbfbhiiaaGreat
open Go.RowKit
attribute [local go_sem ↓] Go.wp_at_zero Go.wp_at_succ
theorem upM_ci {K : Rows} {C : Cnt} (h : CInv K C) {key : ByteArray} (hr : key ∈ K 0 ∨ key ∈ K 1) {n : Nat} (hn : n ≤ 3) : CInv K (upM C key (some n)) := by
 refine ⟨h.nd, fun k => ?_, fun k m hm => ?_⟩
 ·unfold upM
  by_cases e : k = key
  ·subst e; simp [hr]
  ·simp [e]; exact h.is k
 ·unfold upM at hm
  split at hm
  ·cases hm; exact hn
  ·exact h.le k m hm
theorem S3.Inv.access {s : S3} (h : s.Inv) {key : ByteArray} (hz : key.size ≤ maxLen) : (s.access key).2.2.Inv := by
 unfold S3.access
 split
 ·rename_i hh
  have hr : key ∈ s.K 0 ∨ key ∈ s.K 1 := of_decide_eq_true hh
  exact ⟨upM_ci h.ci hr (Nat.min_le_left _ _), h.c1, h.c2, h.res, h.gh⟩
 ·rename_i hh
  have hno : ¬ (key ∈ s.K 0 ∨ key ∈ s.K 1) := fun h2 => hh (decide_eq_true h2)
  obtain ⟨a1, a2, a3, a4⟩ := h.room
  simp only
  generalize s.room = r at *
  obtain ⟨g, r⟩ := r
  simp only at *
  have hg := a1.gh
  have hrs := a1.res
  simp only [S3.len] at a3
  have p0 : ∀ q, (pushK r.K q key 0).length ≤ (r.K 0).length + (if (0 : Nat) = q then 1 else 0) := fun q => by
   have := push_len r.K q 0 key
   have := drop_len_le r.K key 0
   omega
  have p1 : ∀ q, (pushK r.K q key 1).length ≤ (r.K 1).length + (if (1 : Nat) = q then 1 else 0) := fun q => by
   have := push_len r.K q 1 key
   have := drop_len_le r.K key 1
   omega
  have p2 : ∀ q, q < 2 → (pushK r.K q key 2).length ≤ (r.K 2).length := fun q hq => by
   have := push_len r.K q 2 key
   have := drop_len_le r.K key 2
   rw [if_neg (by omega)] at *
   omega
  split
  ·have := p0 1
   have := p1 1
   have := p2 1 (by omega)
   simp at *
   exact ⟨a1.ci.toMain hz (by omega), h.c1, h.c2, by simp only; omega, by simp only [S3.ghosts, S3.small, a2] at *; omega⟩
  ·have := p0 0
   have := p1 0
   have := p2 0 (by omega)
   simp at *
   exact ⟨a1.ci.toSmall hz (by omega), h.c1, h.c2, by simp only; omega, by simp only [S3.ghosts, S3.small, a2] at *; omega⟩
section
variable {w : World} {e g cap x y : Nat} {F : List Nat} {s : S3}
end
end Go.Proofs.YtfeicmpbfbhiiaaGreat
set_option linter.unusedVariables false
set_option linter.unusedSimpArgs false
namespace Go.Proofs.YtfeicmpbfbhiiaaGreat
open Go.RowKit
attribute [local go_sem ↓] Go.wp_at_zero Go.wp_at_succ
section
variable {w : World} {e g cap x y : Nat} {F : List Nat} {s : S3}
theorem S3.Inv.tot {s : S3} (hi : s.Inv) : tot 3 s.K ≤ 60000 := by
 have hr := hi.res
 have hg := hi.gh
 have hc := hi.c2
 have hgh : s.ghosts ≤ 1024 := by unfold S3.ghosts; omega
 rw [tot3]; omega
end
end Go.Proofs.YtfeicmpbfbhiiaaGreat
set_option linter.unusedVariables false
set_option linter.unusedSimpArgs false
namespace Go.Proofs.YtfeicmpbfbhiiaaGreat
open Go.RowKit
attribute [local go_sem ↓] Go.wp_at_zero Go.wp_at_succ
def ES (w : World) (e : Nat) (F : List Nat) (s : S3) : Prop := s.Inv ∧ ∃ g cap x y, SR w e g cap x y s.c s.small s.ghosts F s.K s.C
theorem ES.fr {w w' : World} {e : Nat} {F G : List Nat} {s : S3} (h : ES w e F s) (f : Fr G w w') (hd : Dis F G) : ES w' e F s := by
 obtain ⟨hi, g, cap, x, y, h⟩ := h
 exact ⟨hi, g, cap, x, y, h.fr f hd⟩
theorem ES.lt {w : World} {e : Nat} {F : List Nat} {s : S3} (h : ES w e F s) : Lt F w := by
 obtain ⟨hi, g, cap, x, y, h⟩ := h
 exact h.lt
def S3.new (room : Int) : S3 := ⟨fun _ => [], fun _ => none, roomN room⟩
theorem S3.Inv.new (room : Int) : (S3.new room).Inv := by
 obtain ⟨h1, h2⟩ := roomN_bd room
 exact ⟨⟨RNd.nil 3, by intro key; simp [S3.new], by intro key n h; simp [S3.new] at h⟩, h1, h2, by simp [S3.new], by simp [S3.new]⟩
theorem snew_ret {w w1 w2 : World} {room v v1 v2 : Int} {F1 F2 : List Nat} {g cap x y : Nat} (hr : RRep IRepS 3 w1 (.agg #[.slice (some ⟨g, 0, none⟩) 3 cap, .pointer (some ⟨x, 0, none⟩)]) F1 (fun _ => [])) (hge : Ge w.heap.size F1) (hf1 : Fr [] w w1)
  (hi : IRepI w2 y F2 (fun _ => none) 0) (hge2 : Ge w1.heap.size F2) (hf2 : Fr [] w1 w2) (hv : (roomN room : Int) = v)
  (hv1 : ((max 1 (roomN room / 10) : Nat) : Int) = v1) (hv2 : ((max 1 (roomN room - max 1 (roomN room / 10)) : Nat) : Int) = v2) :
  NewRet ES w (S3.new room) (.returned (.pointer (some ⟨w2.heap.size, 0, none⟩))) (w2.alloc (.cells #[.slice (some ⟨g, 0, none⟩) 3 cap, .pointer (some ⟨x, 0, none⟩), .int .i64 v, .int .i64 v1, .int .i64 v2, .pointer (some ⟨y, 0, none⟩)] 221)) := by
 subst hv hv1 hv2
 have hl1 := hr.lt irokS
 have hl2 := hi.lt
 have hs2 := hf2.size
 have hs1 := hf1.size
 have fa : Fr [] w2 (w2.alloc (.cells #[.slice (some ⟨g, 0, none⟩) 3 cap, .pointer (some ⟨x, 0, none⟩), .int .i64 (roomN room : Nat), .int .i64 ((max 1 (roomN room / 10) : Nat) : Int), .int .i64 ((max 1 (roomN room - max 1 (roomN room / 10)) : Nat) : Int), .pointer (some ⟨y, 0, none⟩)] 221)) := (Fr.refl [] _).alloc _
 refine ⟨w2.heap.size, (w2.heap.size :: F1) ++ F2, rfl, ⟨S3.Inv.new room, g, cap, x, y, w2.heap.size :: F1, F2, 0, rfl, ⟨F1, rfl, fun h => ?_, block_alloc_new _ _, hr.fr irokS (hf2.same fa) (fun b _ => by simp)⟩, hi.fr fa (fun b _ => by simp), ?_, by simp, (S3.Inv.new room).ci⟩, ?_, (hf1.same hf2).alloc _⟩
 ·have := hl1 _ h; omega
 ·intro b hb hb2
  have h2 := hge2 b hb2
  have h3 := hl2 b hb2
  rcases List.mem_cons.1 hb with rfl | hb
  ·omega
  ·have := hl1 b hb; omega
 ·intro b hb
  rcases List.mem_append.1 hb with hb | hb
  ·rcases List.mem_cons.1 hb with rfl | hb
   ·omega
   ·exact hge b hb
  ·have := hge2 b hb; omega
set_option maxRecDepth 100000 in
theorem snew (w : World) (room : Int) (h0 : -9223372036854775808 ≤ room) (h1 : room ≤ 9223372036854775807) : Calls Tryz.prog 96 #[.int .i64 room] w (NewRet ES w (S3.new room)) := by
 go_enter Tryz.func96, Tryz.ntmps96
 go_wp2_with fail
 all_goals
  refine (rnewS _).mono ?_
  rintro en w1 ⟨v, F1, rfl, hr, hge, hf1⟩
  obtain ⟨g, cap, x, rfl, hgl⟩ := hr.form
  have HX := Lib.hid (And.intro hr (And.intro hge hf1))
  clear hr hge hf1
 all_goals go_wp2_with fail
 all_goals
  refine (idxNewI _).mono ?_
  rintro en w2 ⟨y, F2, rfl, hi, hge2, hf2⟩
  have HY := Lib.hid (And.intro hi (And.intro hge2 hf2))
  clear hi hge2 hf2
 all_goals go_wp2
 all_goals
  go_ret
  obtain ⟨hr, hge, hf1⟩ := HX.out
  obtain ⟨hi, hge2, hf2⟩ := HY.out
  refine snew_ret hr hge hf1 hi hge2 hf2 ?_ ?_ ?_
 all_goals
  unfold roomN
  first | omega | (split <;> omega)
end Go.Proofs.YtfeicmpbfbhiiaaGreat
set_option linter.unusedVariables false
set_option linter.unusedSimpArgs false
namespace Go.Proofs.YtfeicmpbfbhiiaaGreat
open Go.RowKit
attribute [local go_sem ↓] Go.wp_at_zero Go.wp_at_succ
def encW (ws : List Nat) : List Value := ws.map fun x => .int .u64 (x : Nat)
/-- A door at p: its words lie in block g. -/
def DRaw (w : World) (p g m : Nat) (ws : List Nat) (d : Dr) : Prop :=
 p ≠ g ∧ w.heap[p]? = some (.cells #[.slice (some ⟨g, 0, none⟩) m m] 257 (0, 0)) ∧ Sl w 40 1 (.slice (some ⟨g, 0, none⟩) m m) m (encW ws) ∧ ws.length = m ∧ d.n = 64 * m ∧
  (∀ x ∈ ws, x < 2 ^ 64) ∧ ∀ j, j < d.n → d.bit j = (ws[j / 64]?.getD 0).testBit (j % 64)
def DRep (w : World) (p : Nat) (F : List Nat) (d : Dr) : Prop := ∃ g m ws, F = [p, g] ∧ DRaw w p g m ws d
section
variable {w w' : World} {p g m : Nat} {F G : List Nat} {ws : List Nat} {d : Dr}
theorem DRaw.fr (h : DRaw w p g m ws d) (f : Fr G w w') (hp : p ∉ G) (hg : g ∉ G) : DRaw w' p g m ws d :=
 ⟨h.1, f.get h.2.1 hp, h.2.2.1.fr f (fun b hb => by simp [Value.ownBlock] at hb; subst hb; exact hg), h.2.2.2⟩
theorem DRep.fr (h : DRep w p F d) (f : Fr G w w') (hd : Dis F G) : DRep w' p F d := by
 obtain ⟨g, m, ws, rfl, h⟩ := h
 exact ⟨g, m, ws, rfl, h.fr f (hd p (by simp)) (hd g (by simp))⟩
theorem DRep.lt (h : DRep w p F d) : Lt F w := by
 obtain ⟨g, m, ws, rfl, h⟩ := h
 intro b hb
 simp at hb
 rcases hb with rfl | rfl
 ·exact lt_of_block h.2.1
 ·exact h.2.2.1.lt _ (by simp [Value.ownBlock])
theorem DRaw.head (h : DRaw w p g m ws d) : w.cell? ⟨p, 0, none⟩ = some (.slice (some ⟨g, 0, none⟩) m m) := by
 rw [cell_of_block h.2.1]; rfl
theorem DRaw.cell (h : DRaw w p g m ws d) (i : Nat) (hi : i < m) : w.cell? ⟨g, i, none⟩ = some (.int .u64 ((ws[i]?.getD 0 : Nat) : Int)) := by
 have := h.2.2.1.cell (j := i) (u := .int .u64 ((ws[i]?.getD 0 : Nat) : Int)) (by
  unfold encW
  rw [List.getElem?_map, List.getElem?_eq_getElem (by rw [h.2.2.2.1]; exact hi)]; rfl)
 simpa using this
end
theorem wrap64s (x : Nat) (h : x < 18446744073709551616) : IntKind.u64.wrap (x : Int) = x := by
 have : IntKind.u64.wrap (x : Int) = (x : Int) % 18446744073709551616 := by simp [IntKind.wrap, IntKind.bits, IntKind.signed]
 rw [this]; omega
theorem ofInt64 (a : Nat) (h : a < 2 ^ 64) : (BitVec.ofInt 64 (a : Int)).toNat = a := by
 rw [BitVec.ofInt_natCast, BitVec.toNat_ofNat]; exact Nat.mod_eq_of_lt h
theorem bits_and (a b : Nat) (ha : a < 2 ^ 64) (hb : b < 2 ^ 64) : bits BinOp.and IntKind.u64 (a : Int) (b : Int) = ((a &&& b : Nat) : Int) := by
 show IntKind.u64.wrap ((BitVec.ofInt 64 (a : Int) &&& BitVec.ofInt 64 (b : Int)).toNat : Int) = _
 rw [BitVec.toNat_and, ofInt64 a ha, ofInt64 b hb]
 exact wrap64s _ (by have := Nat.and_lt_two_pow (n := 64) a hb; omega)
theorem bits_or (a b : Nat) (ha : a < 2 ^ 64) (hb : b < 2 ^ 64) : bits BinOp.or IntKind.u64 (a : Int) (b : Int) = ((a ||| b : Nat) : Int) := by
 show IntKind.u64.wrap ((BitVec.ofInt 64 (a : Int) ||| BitVec.ofInt 64 (b : Int)).toNat : Int) = _
 rw [BitVec.toNat_or, ofInt64 a ha, ofInt64 b hb]
 exact wrap64s _ (by have := Nat.or_lt_two_pow ha hb; omega)
theorem and_pow (x k : Nat) : (x &&& 2 ^ k = 0) ↔ x.testBit k = false := by
 constructor
 ·intro h
  have : (x &&& 2 ^ k).testBit k = false := by rw [h]; simp
  rw [Nat.testBit_and, Nat.testBit_two_pow_self] at this
  simpa using this
 ·intro h
  apply Nat.eq_of_testBit_eq
  intro i
  rw [Nat.testBit_and, Nat.testBit_two_pow]
  by_cases e : k = i
  ·subst e; simp [h]
  ·simp [e]
set_option maxRecDepth 100000 in
theorem dbit {w : World} {p g m : Nat} {ws : List Nat} {d : Dr} (H : DRaw w p g m ws d) (hm1 : 1 ≤ m) (hm : m ≤ 256) (i : Nat) (hi : i < 3) (key : ByteArray) (hk : key.size ≤ maxLen) :
  Calls Tryz.prog 414 #[.pointer (some ⟨p, 0, none⟩), .int .i64 i, .string key] w fun en w' => en = .returned (.tuple #[.int .i64 (d.at key i / 64 : Nat), .int .u64 (2 ^ (d.at key i % 64) : Nat)]) ∧ Fr [] w w' := by
 have h0 := H.head
 have hh := hashI_bd (11 + i) key
 obtain ⟨j, hj⟩ : ∃ j, d.at key i = j := ⟨_, rfl⟩
 have hjp : placeN (hashI (11 + i) key) (64 * m) = j := by rw [← hj]; unfold Dr.at; rw [H.2.2.2.2.1]
 have hjl : j < 64 * m := by rw [← hjp]; exact placeN_lt _ _ (by omega)
 rw [hj]
 obtain ⟨hv, hhv⟩ : ∃ v, hashI (11 + i) key = v := ⟨_, rfl⟩
 have HH := Lib.hid ((mix_hash (11 + i) (by omega) (by omega) key hk))
 rw [hhv] at HH hh hjp
 have hpl := fun W => mix_place hv hh.1 hh.2 (64 * m) (by omega) (by omega) W
 rw [hjp] at hpl
 have HP := Lib.hid hpl
 have e64 : ((64 * m : Nat) : Int) = 64 * (m : Int) := by omega
 clear hpl H hj hhv hh hjp
 go_enter Tryz.func414, Tryz.ntmps414
 go_wp2
 go_quiet (first | (go_at_call 136; exact Calls.quiet_of_same ((HH.out _).mono fun _ _ h => ⟨h.1, h.2.symm⟩)) | (go_at_call 248; exact Calls.quiet_of_same ((e64 ▸ HP.out _).mono fun _ _ h => ⟨h.1, h.2.symm⟩)))
 go_wp2_with fail
 go_quiet (fail)
 go_wp2
 go_ret2
 refine ⟨?_, ((Fr.refl [] _).drewN _).drewN _⟩
 show Ending.returned (.tuple #[.int .i64 ((j : Int) / 64), .int .u64 (IntKind.u64.wrap ((2 : Int) ^ (j % 64)))]) = _
 have hp : 2 ^ (j % 64) < 2 ^ 64 := Nat.pow_lt_pow_right (by decide) (Nat.mod_lt _ (by decide))
 have e2 := wrap64s (2 ^ (j % 64)) (by omega)
 rw [show ((2 : Int) ^ (j % 64)) = ((2 ^ (j % 64) : Nat) : Int) by simp, e2]
 rfl
theorem DRaw.bitOf {w : World} {p g m : Nat} {ws : List Nat} {d : Dr} (H : DRaw w p g m ws d) {j : Nat} (hj : j < d.n) : j / 64 < m ∧ (ws[j / 64]?.getD 0) < 2 ^ 64 ∧ (d.bit j = true → bits BinOp.and IntKind.u64 ((ws[j / 64]?.getD 0 : Nat) : Int) ((2 ^ (j % 64) : Nat) : Int) ≠ 0) ∧
  (d.bit j = false → bits BinOp.and IntKind.u64 ((ws[j / 64]?.getD 0 : Nat) : Int) ((2 ^ (j % 64) : Nat) : Int) = 0) := by
 have hn := H.2.2.2.2.1
 have hm : j / 64 < m := by omega
 have hx : (ws[j / 64]?.getD 0) < 2 ^ 64 := by
  rw [List.getElem?_eq_getElem (by rw [H.2.2.2.1]; exact hm)]
  exact H.2.2.2.2.2.1 _ (List.getElem_mem _)
 have hp : 2 ^ (j % 64) < 2 ^ 64 := Nat.pow_lt_pow_right (by decide) (Nat.mod_lt _ (by decide))
 have hb := H.2.2.2.2.2.2 j hj
 refine ⟨hm, hx, fun h => ?_, fun h => ?_⟩
 ·rw [bits_and _ _ hx hp]
  intro h0
  have := (and_pow (ws[j / 64]?.getD 0) (j % 64)).1 (by omega)
  rw [← hb, h] at this
  simp at this
 ·rw [bits_and _ _ hx hp, (and_pow _ _).2 (by rw [← hb, h])]
  rfl
theorem Dr.at_lt (d : Dr) (key : ByteArray) (i : Nat) (h : 1 ≤ d.n) : d.at key i < d.n := placeN_lt _ _ h
set_option maxRecDepth 100000 in
theorem dhas {w : World} {p g m : Nat} {ws : List Nat} {d : Dr} (H : DRaw w p g m ws d) (hm1 : 1 ≤ m) (hm : m ≤ 256) (key : ByteArray) (hk : key.size ≤ maxLen) :
  Calls Tryz.prog 413 #[.pointer (some ⟨p, 0, none⟩), .string key] w fun en w' => en = .returned (.bool (d.has key)) ∧ Fr [] w w' := by
 have HD := Lib.hid fun (W : World) (f : Fr [] w W) (i : Nat) (hi : i < 3) => dbit (H.fr f (by simp) (by simp)) hm1 hm i hi key hk
 have HH := Lib.hid H
 obtain ⟨r, hr⟩ : ∃ r, d.has key = r := ⟨_, rfl⟩
 rw [hr]
 have HR := Lib.hid hr
 clear H hr
 go_enter Tryz.func413, Tryz.ntmps413
 go_wp2_with fail
 go_loopg [10] 3 (fun gg u10 wr => ∃ i : Nat, u10 = .int .i64 i ∧ i + gg = 3 ∧ Fr [] w wr ∧ Hid (∀ k, k < i → d.bit (d.at key k) = true))
 case atStart => exact ⟨0, rfl, rfl, Fr.refl _ _, fun k h => by omega⟩
 case round =>
  obtain ⟨i, rfl, hi, hf, hall⟩ := hrel
  by_cases hlt : i < 3
  ·have q1 : (i : Int) < 3 := by omega
   go_wp2_with fail
   refine (HD.out _ hf i hlt).mono ?_
   rintro en w1 ⟨rfl, hf1⟩
   have hf2 := hf.same hf1
   have H1 := HH.out.fr hf2 (by simp) (by simp)
   have hjl : d.at key i < d.n := Dr.at_lt _ _ _ (by rw [H1.2.2.2.2.1]; omega)
   obtain ⟨b1, b2, b3, b4⟩ := H1.bitOf hjl
   have h0 := H1.head
   have hc := H1.cell _ b1
   obtain ⟨x, hx⟩ : ∃ x, ws[d.at key i / 64]?.getD 0 = x := ⟨_, rfl⟩
   obtain ⟨y, hy⟩ : ∃ y, 2 ^ (d.at key i % 64) = y := ⟨_, rfl⟩
   obtain ⟨jw, hjw⟩ : ∃ jw, d.at key i / 64 = jw := ⟨_, rfl⟩
   rw [hx, hy] at b3 b4
   rw [hx] at b2 hc
   rw [hjw] at hc b1
   rw [hy, hjw]
   clear hy hjw hx
   by_cases hb : d.bit (d.at key i) = true
   ·have q2 := b3 hb
    have HB := Lib.hid hb
    clear b3 b4 hb H1 hf hf1
    have HF := Lib.hid hf2
    clear hf2
    go_wp2_with fail
    go_roundg (2 - i)
    case measure => omega
    case rel => exact ⟨i + 1, by go_num, by omega, HF.out, fun k hk' => by
      by_cases e : k = i
      ·subst e; exact HB.out
      ·exact hall.out k (by omega)⟩
   ·have hb' : d.bit (d.at key i) = false := by simpa using hb
    have q2 : (bits BinOp.and IntKind.u64 (x : Int) (y : Int) == 0) = true := beq_iff_eq.2 (b4 hb')
    have HB := Lib.hid hb'
    clear b3 b4 hb hb' H1 hf hf1
    have HF := Lib.hid hf2
    clear hf2
    go_wp2
    go_ret
    refine ⟨?_, HF.out⟩
    rw [← HR.out]
    have hi3 : i = 0 ∨ i = 1 ∨ i = 2 := by omega
    rcases hi3 with rfl | rfl | rfl <;> simp [Dr.has, HB.out]
  ·have q1 : (3 : Int) ≤ (i : Int) := by omega
   have HF := Lib.hid hf
   clear hf
   go_wp2
   go_ret
   refine ⟨?_, HF.out⟩
   rw [← HR.out]
   have h0 := hall.out 0 (by omega)
   have h1 := hall.out 1 (by omega)
   have h2 := hall.out 2 (by omega)
   simp [Dr.has, h0, h1, h2]
end Go.Proofs.YtfeicmpbfbhiiaaGreat
set_option linter.unusedVariables false
set_option linter.unusedSimpArgs false
namespace Go.Proofs.YtfeicmpbfbhiiaaGreat
open Go.RowKit
attribute [local go_sem ↓] Go.wp_at_zero Go.wp_at_succ
theorem DRaw.or {w : World} {p g m : Nat} {ws : List Nat} {d : Dr} (H : DRaw w p g m ws d) {j x y jw : Nat} (hj : j < d.n) (hx : ws[j / 64]?.getD 0 = x) (hy : 2 ^ (j % 64) = y) (hjw : j / 64 = jw) :
  DRaw (w.setCell ⟨g, jw, none⟩ (.int .u64 (bits BinOp.or IntKind.u64 (x : Int) (y : Int)))) p g m (ws.set jw (x ||| y)) { d with bit := fun t => d.bit t || decide (t = j) } := by
 obtain ⟨b1, b2, _, _⟩ := H.bitOf hj
 rw [hx] at b2
 rw [hjw] at b1
 have hp : 2 ^ (j % 64) < 2 ^ 64 := Nat.pow_lt_pow_right (by decide) (Nat.mod_lt _ (by decide))
 rw [hy] at hp
 obtain ⟨h1, h2, h3, h4, h5, h6, h7⟩ := H
 have e := h3.set jw (.int .u64 (bits BinOp.or IntKind.u64 (x : Int) (y : Int)))
 refine ⟨h1, ((Fr.refl [g] w).setCell (p := ⟨g, jw, none⟩) (by simp) _).get h2 (by simpa using h1), ?_, by simpa using h4, h5, ?_, ?_⟩
 ·rw [Nat.zero_add] at e
  have e2 : (encW ws).set jw (.int .u64 (bits BinOp.or IntKind.u64 (x : Int) (y : Int))) = encW (ws.set jw (x ||| y)) := by
   unfold encW
   rw [bits_or _ _ b2 hp, List.map_set]
  rw [e2] at e
  exact e
 ·intro z hz
  rcases List.mem_or_eq_of_mem_set hz with h | rfl
  ·exact h6 z h
  ·exact Nat.or_lt_two_pow b2 hp
 ·intro t ht
  have h := h7 t ht
  show (d.bit t || decide (t = j)) = _
  rw [h]
  by_cases e1 : t / 64 = jw
  ·rw [e1, List.getElem?_set_self (by rw [h4]; exact b1)]
   show _ = (x ||| y).testBit (t % 64)
   rw [Nat.testBit_or, ← hy, Nat.testBit_two_pow]
   rw [hjw] at hx
   rw [hx]
   congr 1
   rw [decide_eq_decide]
   omega
  ·rw [List.getElem?_set_ne (fun h => e1 h.symm)]
   have : ¬ t = j := by rintro rfl; exact e1 hjw
   simp [this]
set_option maxRecDepth 100000 in
theorem dadd {w : World} {p : Nat} {F : List Nat} {d : Dr} (hi : d.Inv) (H : DRep w p F d) (key : ByteArray) (hk : key.size ≤ maxLen) :
  Calls Tryz.prog 405 #[.pointer (some ⟨p, 0, none⟩), .string key] w fun en w' => en = .returned (.bool (d.has key)) ∧ DRep w' p F (d.add key) ∧ Fr F w w' := by
 obtain ⟨g, m, ws, rfl, H⟩ := H
 have hn := H.2.2.2.2.1
 have hn64 := hi.n64
 have hn2 := hi.n2
 have hm1 : 1 ≤ m := by omega
 have hm : m ≤ 256 := by omega
 have HH := Lib.hid (dhas H hm1 hm key hk)
 have H0 := Lib.hid H
 clear H hi
 go_enter Tryz.func405, Tryz.ntmps405
 go_wp2_with fail
 refine HH.out.mono ?_
 rintro en w0 ⟨rfl, hf0⟩
 have HF0 := Lib.hid hf0
 clear hf0
 go_wp2_with fail
 go_loopg [14] 3 (fun gg u14 wr => ∃ (i : Nat) (ws' : List Nat) (d' : Dr), u14 = .int .i64 i ∧ i + gg = 3 ∧ Fr [p, g] w wr ∧ d'.n = d.n ∧ Aside (∀ j, d'.bit j = (d.bit j || decide (∃ k, k < i ∧ j = d.at key k))) ∧ Hid (DRaw wr p g m ws' d'))
 case atStart => exact ⟨0, ws, d, rfl, rfl, HF0.out.nil, rfl, fun j => by simp, H0.out.fr HF0.out (by simp) (by simp)⟩
 case round =>
  obtain ⟨i, ws', d', rfl, hi, hf, hdn, hbit, H⟩ := hrel
  by_cases hlt : i < 3
  ·have q1 : (i : Int) < 3 := by omega
   go_wp2_with fail
   refine (dbit H.out hm1 hm i hlt key hk).mono ?_
   rintro en w1 ⟨rfl, hf1⟩
   have hf2 := hf.same hf1.nil
   have H1 := H.out.fr hf1 (by simp) (by simp)
   have hat : d'.at key i = d.at key i := by unfold Dr.at; rw [hdn]
   have hjl : d'.at key i < d'.n := Dr.at_lt _ _ _ (by omega)
   obtain ⟨b1, b2, b3, b4⟩ := H1.bitOf hjl
   have h0 := H1.head
   have hc := H1.cell _ b1
   have zg := fun i => free_of_block H1.2.1 i
   obtain ⟨x, hx⟩ : ∃ x, ws'[d'.at key i / 64]?.getD 0 = x := ⟨_, rfl⟩
   obtain ⟨y, hy⟩ : ∃ y, 2 ^ (d'.at key i % 64) = y := ⟨_, rfl⟩
   obtain ⟨jw, hjw⟩ : ∃ jw, d'.at key i / 64 = jw := ⟨_, rfl⟩
   have hor := H1.or hjl hx hy hjw
   have hfs := Fr.setCell (F := [p, g]) hf2 (p := ⟨g, jw, none⟩) (by simp) (.int .u64 (bits BinOp.or IntKind.u64 (x : Int) (y : Int)))
   have zz : w1.frozen? ⟨g, jw, none⟩ = false := by
    rcases H1.2.2.1.2 with ⟨h1, _⟩ | ⟨g', off', cap, cur, h1, hgg, _⟩
    ·simp at h1
    ·simp at h1
     obtain ⟨⟨rfl, rfl⟩, rfl⟩ := h1
     exact free_of_block hgg _
   rw [hx] at hc
   rw [hjw] at hc b1
   rw [hy, hjw]
   rw [hat] at hor
   have HO := Lib.hid (And.intro hor hfs)
   clear hy hjw hx hor hfs b2 b3 b4 H1 hf hf1 hf2 hat hjl H
   go_wp2_with fail
   go_roundg (2 - i)
   case measure => omega
   case rel =>
    refine ⟨i + 1, _, { d' with bit := fun t => d'.bit t || decide (t = d.at key i) }, by go_num, by omega, HO.out.2, hdn, fun j => ?_, HO.out.1⟩
    show (d'.bit j || decide (j = d.at key i)) = _
    rw [hbit.out j, Bool.or_assoc]
    congr 1
    rw [← Bool.decide_or, decide_eq_decide]
    constructor
    ·rintro (⟨k, h1, h2⟩ | h)
     ·exact ⟨k, by omega, h2⟩
     ·exact ⟨i, by omega, h⟩
    ·rintro ⟨k, h1, h2⟩
     by_cases e : k = i
     ·subst e; exact .inr h2
     ·exact .inl ⟨k, by omega, h2⟩
  ·have q1 : (3 : Int) ≤ (i : Int) := by omega
   have HF := Lib.hid hf
   clear hf
   go_wp2
   go_ret
   refine ⟨rfl, ⟨g, m, ws', rfl, ?_⟩, HF.out⟩
   have ed : d' = d.add key := by
    obtain ⟨dn, db⟩ := d'
    simp only at hdn hbit
    unfold Dr.add
    rw [hdn]
    congr 1
    funext j
    rw [hbit.out j]
    congr 1
    rw [decide_eq_decide]
    have : i = 3 := by omega
    subst this
    constructor
    ·rintro ⟨k, h1, h2⟩
     have : k = 0 ∨ k = 1 ∨ k = 2 := by omega
     rcases this with rfl | rfl | rfl <;> simp [h2]
    ·rintro (h | h | h)
     ·exact ⟨0, by omega, h⟩
     ·exact ⟨1, by omega, h⟩
     ·exact ⟨2, by omega, h⟩
   rw [← ed]
   exact H.out
theorem Sl.setList {w : World} {T : TypeId} {n g off c : Nat} : ∀ (vs : List Value) (j : Nat) (w : World) (xs : List Value), Sl w T 1 (.slice (some ⟨g, off, none⟩) n c) n xs → j + vs.length = n → Sl (w.setCells g (off + j) vs) T 1 (.slice (some ⟨g, off, none⟩) n c) n (xs.take j ++ vs)
 | [], j, w, xs, h, hj => by
  have hl := h.1
  rw [List.take_of_length_le (by simp at hj; omega), List.append_nil]
  exact h
 | v :: r, j, w, xs, h, hj => by
  have hl := h.1
  simp only [List.length_cons] at hj
  have h1 := h.set j v
  have h2 := Sl.setList (T := T) (w := w) r (j + 1) _ _ h1 (by omega)
  have e : (xs.set j v).take (j + 1) ++ r = xs.take j ++ v :: r := by
   rw [List.take_add_one, List.getElem?_set_self (by omega), List.take_set_of_le (Nat.le_refl _)]
   simp
  rw [e] at h2
  exact h2
theorem infoU64 : (Tryz.prog.info? 40).map (fun i => (i.zero, i.size, i.bytes)) = some (some (.int .u64 0), 1, 8) := by kernel_rfl
theorem DRaw.wipe {w : World} {p g m : Nat} {ws : List Nat} {d : Dr} (H : DRaw w p g m ws d) : DRaw (w.setCells g 0 (List.replicate m (.int .u64 0))) p g m (List.replicate m 0) d.clear := by
 obtain ⟨h1, h2, h3, h4, h5, h6, h7⟩ := H
 have e := Sl.setList (w := w) (List.replicate m (.int .u64 0)) 0 w _ h3 (by simp)
 refine ⟨h1, (setCells_fr g _ 0 w).get h2 (by simpa using h1), ?_, by simp, h5, ?_, ?_⟩
 ·have e2 : encW (List.replicate m 0) = List.replicate m (.int .u64 0) := by unfold encW; rw [List.map_replicate]; rfl
  rw [e2]
  simpa using e
 ·intro x hx
  rw [(List.mem_replicate.1 hx).2]; decide
 ·intro j hj
  show false = _
  rw [List.getElem?_replicate]
  split <;> simp
set_option maxRecDepth 100000 in
theorem dclear {w : World} {p : Nat} {F : List Nat} {d : Dr} (hi : d.Inv) (H : DRep w p F d) :
  Calls Tryz.prog 408 #[.pointer (some ⟨p, 0, none⟩)] w fun en w' => en = .returned (.tuple #[]) ∧ DRep w' p F d.clear ∧ Fr F w w' := by
 obtain ⟨g, m, ws, rfl, H⟩ := H
 have hn := H.2.2.2.2.1
 have hn64 := hi.n64
 have hm1 : 1 ≤ m := by omega
 have h0 := H.head
 have hz : ∀ w, (zeroValue 40).run Tryz.prog w = .ok (.int .u64 0) w := by
  intro w
  kernel_rfl
 have hfz : ∀ j, w.frozen? ⟨g, j, none⟩ = false := by
  intro j
  rcases H.2.2.1.2 with ⟨h1, _⟩ | ⟨g', off', cap, cur, h1, hgg, _⟩
  ·simp at h1
  ·simp at h1
   obtain ⟨⟨rfl, rfl⟩, rfl⟩ := h1
   exact free_of_block hgg _
 have hcl := fun ty => Lib.run_clear_slice (P := Tryz.prog) w 255 40 ty (.int .u64 0) Tryz.underlying255 hz rfl rfl g 0 m m (by omega) (fun j hj => by rw [Nat.zero_add, H.cell j hj]; rfl) (fun j hj => by rw [Nat.zero_add]; exact hfz j)
 have HW := Lib.hid (And.intro H.wipe (setCells_fr g (List.replicate m (.int .u64 0)) 0 w))
 obtain ⟨w1, hw1⟩ : ∃ w1, w.setCells g 0 (List.replicate m (.int .u64 0)) = w1 := ⟨_, rfl⟩
 rw [hw1] at hcl HW
 clear hw1 H hz hfz hi
 go_enter Tryz.func408, Tryz.ntmps408
 go_wp2
 go_end0
 exact ⟨rfl, ⟨g, m, _, rfl, HW.out.1⟩, HW.out.2.mono (by simp)⟩
end Go.Proofs.YtfeicmpbfbhiiaaGreat
set_option linter.unusedVariables false
set_option linter.unusedSimpArgs false
namespace Go.Proofs.YtfeicmpbfbhiiaaGreat
open Go.RowKit
attribute [local go_sem ↓] Go.wp_at_zero Go.wp_at_succ
theorem fixClamp1 (room : Nat) (h1 : 1 ≤ room) (h2 : room ≤ 1024) (w : World) : Calls Tryz.prog 118 #[.int .i64 room, .int .i64 1, .int .i64 1024] w fun e w' => e = .returned (.int .i64 room) ∧ w = w' := by
 go_enter Tryz.func118, Tryz.ntmps118
 go_wp2
 all_goals first
  | (go_ret; refine ⟨?_, rfl⟩; first | rfl | (congr 2; omega))
  | (exfalso; omega)
theorem pow2From_done {r a : Nat} (h : ¬ a < r) : ∀ f, pow2From r f a = a
 | 0 => rfl
 | f + 1 => by unfold pow2From; rw [if_neg h]
theorem newW_raw (w : World) (m : Nat) (hm : m ≤ 1000000) : Sl (w.alloc (.cells (madeCells #[.int .u64 0] (m * 1)) 40)) 40 1 (.slice (some ⟨w.heap.size, 0, none⟩) m m) m (encW (List.replicate m 0)) := by
 have e := made_flat #[.int .u64 0] 1 rfl (by omega) m
 have h := Sl.built (size := 1) (e := 40) w (madeCells #[.int .u64 0] (m * 1)) m (by simp [madeCells]) (by unfold maxLen; omega)
 rw [e] at h
 have e2 : ((List.range m).flatMap fun _ => (#[Value.int .u64 0] : Array Value).toList) = encW (List.replicate m 0) := by
  unfold encW
  rw [List.map_replicate]
  apply List.eq_replicate_iff.2
  refine ⟨by have := h.1; rw [Nat.mul_one] at this; exact this, ?_⟩
  intro b hb
  simp at hb
  exact hb.2
 rw [e2] at h
 exact h
theorem dnew_ret {w : World} {m n : Nat} (hm : 1 ≤ m) (hn : n = 64 * m) (hmx : m ≤ 256) : ∃ F, DRep ((w.alloc (.cells (madeCells #[.int .u64 0] (m * 1)) 40)).alloc (.cells #[.slice (some ⟨w.heap.size, 0, none⟩) m m] 257)) (w.heap.size + 1) F ⟨n, fun _ => false⟩ ∧
  Ge w.heap.size F ∧ Fr [] w ((w.alloc (.cells (madeCells #[.int .u64 0] (m * 1)) 40)).alloc (.cells #[.slice (some ⟨w.heap.size, 0, none⟩) m m] 257)) := by
 have b2 := block_alloc_new (w.alloc (.cells (madeCells #[.int .u64 0] (m * 1)) 40)) (.cells #[.slice (some ⟨w.heap.size, 0, none⟩) m m] 257)
 rw [World.size_alloc] at b2
 refine ⟨[w.heap.size + 1, w.heap.size], ⟨w.heap.size, m, List.replicate m 0, rfl, by omega, b2, (newW_raw w m (by omega)).fr ((Fr.refl [] _).alloc _) (fun b _ => by simp), by simp, hn, ?_, ?_⟩, by intro b hb; simp at hb; omega, ((Fr.refl [] w).alloc _).alloc _⟩
 ·intro x hx
  rw [(List.mem_replicate.1 hx).2]; decide
 ·intro j hj
  show false = _
  rw [List.getElem?_replicate]
  split <;> simp
set_option maxRecDepth 100000 in
theorem dnew (w : World) (room : Nat) (h1 : 1 ≤ room) (h2 : room ≤ 1024) : Calls Tryz.prog 155 #[.int .i64 room] w fun en w' => ∃ p F, en = .returned (.pointer (some ⟨p, 0, none⟩)) ∧ DRep w' p F (Dr.new room) ∧ Ge w.heap.size F ∧ Fr [] w w' := by
 obtain ⟨i0, hii, hz0, hz1, hz2⟩ := info_parts2 infoU64
 have hmk : ∀ (m : Nat) (v : Int), 1 ≤ m → m ≤ 256 → v = m → (Instr.makeSlice 255 (.int .i64 v) (.int .i64 v)).run Tryz.prog w = .ok (.slice (some ⟨w.heap.size, 0, none⟩) m m) (w.alloc (.cells (madeCells #[.int .u64 0] (m * 1)) 40)) := by
  intro m v a b hv
  subst hv
  have hk := run_make (P := Tryz.prog) w 255 40 i0 _ Tryz.underlying255 hii hz0 .i64 .i64 m m (by omega) (Int.le_refl _) (by rw [hz2]; omega) (by omega)
  rw [hz1, Int.toNat_natCast] at hk
  exact hk
 obtain ⟨res, hres⟩ : ∃ r, pow2From room 11 1 = r := ⟨_, rfl⟩
 have hR : Dr.new room = ⟨max 64 (8 * res), fun _ => false⟩ := by unfold Dr.new; rw [hres]
 rw [hR]
 have HM := Lib.hid hmk
 have HS := Lib.hid hres
 clear hmk hres hR hz0
 go_enter Tryz.func155, Tryz.ntmps155
 go_wp2_with fail
 go_loopg [3] 11 (fun gg u3 wr => wr = w ∧ ∃ a : Nat, u3 = .int .i64 a ∧ Aside (pow2From room gg a = res ∧ room ≤ a * 2 ^ gg) ∧ 1 ≤ a ∧ a ≤ 2048 ∧ (a = 1 ∨ a = 2 ∨ a = 4 ∨ 8 ∣ a))
 case atStart => exact ⟨rfl, 1, rfl, ⟨HS.out, by omega⟩, by omega, by omega, .inl rfl⟩
 case round =>
  obtain ⟨rfl, a, rfl, hA, ha1, ha2, ha8⟩ := hrel
  by_cases hlt : a < room
  ·have q1 : (a : Int) < (room : Int) := by omega
   have H8 := Lib.hid ha8
   clear ha8
   go_wp2_with fail
   refine (fixClamp1 room h1 h2 _).mono ?_
   rintro en w1 ⟨rfl, rfl⟩
   go_wp2_with fail
   have hgk : ∃ f, gk = f + 1 := by
    cases gk with
    | zero => exfalso; have := hA.out.2; simp at this; omega
    | succ f => exact ⟨f, rfl⟩
   obtain ⟨f, rfl⟩ := hgk
   have hA1 := hA.out.1
   unfold pow2From at hA1
   rw [if_pos hlt] at hA1
   go_roundg f
   case measure => omega
   case rel => exact ⟨rfl, a * 2, by go_num, ⟨hA1, by have := hA.out.2; rw [Nat.pow_succ] at this; rw [Nat.mul_assoc, Nat.mul_comm 2]; exact this⟩, by omega, by omega, by have := H8.out; omega⟩
  ·have q1 : (room : Int) ≤ (a : Int) := by omega
   have hra : res = a := by rw [← hA.out.1]; exact pow2From_done hlt _
   have HRA := Lib.hid hra
   have H8 := Lib.hid ha8
   clear ha8 hra
   go_wp2_with fail
   refine (fixClamp1 room h1 h2 _).mono ?_
   rintro en w1 ⟨rfl, rfl⟩
   by_cases h16 : a < 16
   ·have hk := HM.out 1 1 (by omega) (by omega) rfl
    have q2 : 8 * (a : Int) / 64 ≤ 1 := by omega
    go_wp2
    go_ret
    obtain ⟨F, b1, b2, b3⟩ := dnew_ret (w := wr) (m := 1) (n := max 64 (8 * res)) (by omega) (by rw [HRA.out]; have := H8.out; omega) (by omega)
    exact ⟨_, F, rfl, b1, b2, b3⟩
   ·obtain ⟨m, hm⟩ : ∃ m, a / 8 = m := ⟨_, rfl⟩
    have hk := HM.out m (8 * (a : Int) / 64) (by omega) (by omega) (by omega)
    have q2 : 1 < 8 * (a : Int) / 64 := by omega
    go_wp2
    go_ret
    obtain ⟨F, b1, b2, b3⟩ := dnew_ret (w := wr) (m := m) (n := max 64 (8 * res)) (by omega) (by rw [HRA.out]; have := H8.out; omega) (by omega)
    rw [Nat.mul_one] at b1 b3
    exact ⟨_, F, rfl, b1, b2, b3⟩
end Go.Proofs.YtfeicmpbfbhiiaaGreat
