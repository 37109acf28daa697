/- Texts of a proof about the given program, those parts that this claim reaches. -/
import Derived.Test.YtfeicmpbfbhiiaaGreatPEg18
import Derived.Test.YtfeicmpbfbhiiaaGreatPEg16
set_option linter.unusedVariables false
set_option linter.unusedSimpArgs false
namespace Go.Proofs.YtfeicmpbfbhiiaaGreat
open Go.RowKit
attribute [local go_sem ↓] Go.wp_at_zero Go.wp_at_succ
end Go.Proofs.YtfeicmpbfbhiiaaGreat
set_option linter.unusedVariables false
set_option linter.unusedSimpArgs false
namespace Go.Proofs.YtfeicmpbfbhiiaaGreat
open Go.RowKit
attribute [local go_sem ↓] Go.wp_at_zero Go.wp_at_succ
theorem infoU8 : (Tryz.prog.info? 5).map (fun i => (i.zero, i.size, i.bytes)) = some (some (.int .u8 0), 1, 1) := by kernel_rfl
theorem newB_raw (w : World) (m : Nat) (hm : m ≤ 1000000) : Sl (w.alloc (.cells (madeCells #[.int .u8 0] (m * 1)) 5)) 5 1 (.slice (some ⟨w.heap.size, 0, none⟩) m m) m (encB (List.replicate m 0)) := by
 have e := made_flat #[.int .u8 0] 1 rfl (by omega) m
 have h := Sl.built (size := 1) (e := 5) w (madeCells #[.int .u8 0] (m * 1)) m (by simp [madeCells]) (by unfold maxLen; omega)
 rw [e] at h
 have e2 : ((List.range m).flatMap fun _ => (#[Value.int .u8 0] : Array Value).toList) = encB (List.replicate m 0) := by
  unfold encB
  rw [List.map_replicate]
  apply List.eq_replicate_iff.2
  refine ⟨by have := h.1; rw [Nat.mul_one] at this; exact this, ?_⟩
  intro b hb
  simp at hb
  exact hb.2
 rw [e2] at h
 exact h
theorem knew_ret {w : World} {m n : Nat} (hm : m = 2 * n) (hn : n ≤ 2048) : ∃ F, KRep ((w.alloc (.cells (madeCells #[.int .u8 0] (m * 1)) 5)).alloc (.cells #[.int .i64 n, .slice (some ⟨w.heap.size, 0, none⟩) m m, .int .i64 0] 254)) (w.heap.size + 1) F ⟨n, fun _ => 0, 0⟩ ∧
  Ge w.heap.size F ∧ Fr [] w ((w.alloc (.cells (madeCells #[.int .u8 0] (m * 1)) 5)).alloc (.cells #[.int .i64 n, .slice (some ⟨w.heap.size, 0, none⟩) m m, .int .i64 0] 254)) := by
 have b2 := block_alloc_new (w.alloc (.cells (madeCells #[.int .u8 0] (m * 1)) 5)) (.cells #[.int .i64 n, .slice (some ⟨w.heap.size, 0, none⟩) m m, .int .i64 0] 254)
 rw [World.size_alloc] at b2
 refine ⟨[w.heap.size + 1, w.heap.size], ⟨w.heap.size, m, List.replicate m 0, rfl, by omega, b2, (newB_raw w m (by omega)).fr ((Fr.refl [] _).alloc _) (fun b _ => by simp), by simp, hm, ?_, ?_⟩, by intro b hb; simp at hb; omega, ((Fr.refl [] w).alloc _).alloc _⟩
 ·intro x hx
  rw [(List.mem_replicate.1 hx).2]; decide
 ·intro j hj
  show 0 = nib _ _
  unfold nib
  rw [List.getElem?_replicate]
  split <;> split <;> simp
theorem pow2From_bd (r : Nat) : ∀ f a, a ≤ 2 * 1024 → r ≤ 1024 → pow2From r f a ≤ 2048 ∧ a ≤ pow2From r f a
 | 0, a, h, _ => ⟨h, Nat.le_refl _⟩
 | f + 1, a, h, hr => by
  unfold pow2From
  split
  ·have := pow2From_bd r f (a * 2) (by omega) hr; omega
  ·exact ⟨h, Nat.le_refl _⟩
theorem pow2From_ev (r : Nat) : ∀ f a, 2 ∣ a → 2 ∣ pow2From r f a
 | 0, a, h => h
 | f + 1, a, h => by
  unfold pow2From
  split
  ·exact pow2From_ev r f (a * 2) (by omega)
  ·exact h
theorem Sk.Inv.new {room : Nat} (h2 : room ≤ 1024) : (Sk.new room).Inv := by
 obtain ⟨a, b⟩ := pow2From_bd room 11 8 (by omega) h2
 have := pow2From_ev room 11 8 (by omega)
 exact ⟨b, a, this, fun _ => Nat.zero_le _, by show 0 < 10 * pow2From room 11 8; omega⟩
set_option maxRecDepth 100000 in
theorem knew (w : World) (room : Nat) (h1 : 1 ≤ room) (h2 : room ≤ 1024) : Calls Tryz.prog 154 #[.int .i64 room] w fun en w' => ∃ p F, en = .returned (.pointer (some ⟨p, 0, none⟩)) ∧ KRep w' p F (Sk.new room) ∧ Ge w.heap.size F ∧ Fr [] w w' := by
 obtain ⟨i0, hii, hz0, hz1, hz2⟩ := info_parts2 infoU8
 have hmk : ∀ (m : Nat) (v : Int), 1 ≤ m → m ≤ 10000 → v = m → (Instr.makeSlice 161 (.int .i64 v) (.int .i64 v)).run Tryz.prog w = .ok (.slice (some ⟨w.heap.size, 0, none⟩) m m) (w.alloc (.cells (madeCells #[.int .u8 0] (m * 1)) 5)) := by
  intro m v a b hv
  subst hv
  have hk := run_make (P := Tryz.prog) w 161 5 i0 _ Tryz.underlying161 hii hz0 .i64 .i64 m m (by omega) (Int.le_refl _) (by rw [hz2]; omega) (by omega)
  rw [hz1, Int.toNat_natCast] at hk
  exact hk
 obtain ⟨res, hres⟩ : ∃ r, pow2From room 11 8 = r := ⟨_, rfl⟩
 have hR : Sk.new room = ⟨res, fun _ => 0, 0⟩ := by unfold Sk.new; rw [hres]
 rw [hR]
 have HM := Lib.hid hmk
 have HS := Lib.hid hres
 clear hmk hres hR hz0
 go_enter Tryz.func154, Tryz.ntmps154
 go_wp2_with fail
 go_loopg [3] 11 (fun gg u3 wr => wr = w ∧ ∃ a : Nat, u3 = .int .i64 a ∧ Aside (pow2From room gg a = res ∧ room ≤ a * 2 ^ gg) ∧ 8 ≤ a ∧ a ≤ 2048)
 case atStart => exact ⟨rfl, 8, rfl, ⟨HS.out, by omega⟩, by omega, by omega⟩
 case round =>
  obtain ⟨rfl, a, rfl, hA, ha1, ha2⟩ := hrel
  by_cases hlt : a < room
  ·have q1 : (a : Int) < (room : Int) := by omega
   go_wp2_with fail
   refine (fixClamp1 room h1 h2 _).mono ?_
   rintro en w1 ⟨rfl, rfl⟩
   go_wp2_with fail
   have hgk : ∃ f, gk = f + 1 := by
    cases gk with
    | zero => exfalso; have := hA.out.2; simp at this; omega
    | succ f => exact ⟨f, rfl⟩
   obtain ⟨f, rfl⟩ := hgk
   have hA1 := hA.out.1
   unfold pow2From at hA1
   rw [if_pos hlt] at hA1
   go_roundg f
   case measure => omega
   case rel => exact ⟨rfl, a * 2, by go_num, ⟨hA1, by have := hA.out.2; rw [Nat.pow_succ] at this; rw [Nat.mul_assoc, Nat.mul_comm 2]; exact this⟩, by omega, by omega⟩
  ·have q1 : (room : Int) ≤ (a : Int) := by omega
   have hra : res = a := by rw [← hA.out.1]; exact pow2From_done hlt _
   have HRA := Lib.hid hra
   obtain ⟨m, hm⟩ : ∃ m, 2 * a = m := ⟨_, rfl⟩
   have hk := HM.out m (4 * (a : Int) / 2) (by omega) (by omega) (by omega)
   have HMM := Lib.hid hm
   clear hra hm
   go_wp2_with fail
   refine (fixClamp1 room h1 h2 _).mono ?_
   rintro en w1 ⟨rfl, rfl⟩
   go_wp2
   go_ret
   obtain ⟨F, b1, b2, b3⟩ := knew_ret (w := wr) (m := m) (n := a) HMM.out.symm ha2
   rw [HRA.out]
   rw [Nat.mul_one] at b1 b3
   exact ⟨_, F, rfl, b1, b2, b3⟩
end Go.Proofs.YtfeicmpbfbhiiaaGreat
set_option linter.unusedVariables false
set_option linter.unusedSimpArgs false
namespace Go.Proofs.YtfeicmpbfbhiiaaGreat
open Go.RowKit
attribute [local go_sem ↓] Go.wp_at_zero Go.wp_at_succ
theorem kcountR {w : World} {p : Nat} {F : List Nat} {s : Sk} (H : KRep w p F s) (hi : s.Inv) (key : ByteArray) (hk : key.size ≤ maxLen) :
  Calls Tryz.prog 415 #[.pointer (some ⟨p, 0, none⟩), .string key] w fun en w' => en = .returned (.int .i64 (s.count key : Nat)) ∧ Fr [] w w' := by
 obtain ⟨g, m, bs, rfl, h⟩ := H
 exact kcount h hi key hk
theorem dhasR {w : World} {p : Nat} {F : List Nat} {d : Dr} (H : DRep w p F d) (hi : d.Inv) (key : ByteArray) (hk : key.size ≤ maxLen) :
  Calls Tryz.prog 413 #[.pointer (some ⟨p, 0, none⟩), .string key] w fun en w' => en = .returned (.bool (d.has key)) ∧ Fr [] w w' := by
 obtain ⟨g, m, ws, rfl, h⟩ := H
 have hn := h.2.2.2.2.1
 have h1 := hi.n64
 have h2 := hi.n2
 exact dhas h (by omega) (by omega) key hk
/-- What never changes of an engine. -/
structure UC where
 e : Nat
 g : Nat
 cap : Nat
 x : Nat
 kp : Nat
 dp : Nat
 c : Nat
 wi : Nat
 ma : Nat
 pr : Nat
/-- Three rows, a sketch, a door. -/
def UR (u : UC) (w : World) (F : List Nat) (K : Rows) (k : Sk) (d : Dr) : Prop :=
 ∃ F1 Fk Fd, F = F1 ++ (Fk ++ Fd) ∧ ERows IRepU 3 213 w u.e u.g u.cap u.x F1 K [.int .i64 (u.c : Nat), .int .i64 (u.wi : Nat), .int .i64 (u.ma : Nat), .int .i64 (u.pr : Nat), .pointer (some ⟨u.kp, 0, none⟩), .pointer (some ⟨u.dp, 0, none⟩)] ∧ KRep w u.kp Fk k ∧ DRep w u.dp Fd d ∧ Dis F1 Fk ∧ Dis F1 Fd ∧ Dis Fk Fd
def UGo (u : UC) (w : World) (F : List Nat) (K : Rows) (k : Sk) (d : Dr) (w' : World) : Prop := ∃ F', UR u w' F' K k d ∧ Sub F' F w ∧ Fr F w w'
section
variable {u : UC} {w w' w0 w1 w2 : World} {F F1 G : List Nat} {K : Rows} {k : Sk} {d : Dr}
theorem UR.fr (h : UR u w F K k d) (f : Fr G w w') (hd : Dis F G) : UR u w' F K k d := by
 obtain ⟨F1, Fk, Fd, rfl, a, b, c, d1, d2, d3⟩ := h
 exact ⟨F1, Fk, Fd, rfl, a.fr irokU f (fun q hq => hd q (by simp [hq])), b.fr f (fun q hq => hd q (by simp [hq])), c.fr f (fun q hq => hd q (by simp [hq])), d1, d2, d3⟩
theorem UR.fr0 (h : UR u w F K k d) (f : Fr [] w w') : UR u w' F K k d := h.fr f (fun b _ => by simp)
theorem UR.lt (h : UR u w F K k d) : Lt F w := by
 obtain ⟨F1, Fk, Fd, rfl, a, b, c, d1, d2, d3⟩ := h
 intro q hq
 simp at hq
 rcases hq with hq | hq | hq
 ·exact a.lt irokU q hq
 ·exact b.lt q hq
 ·exact c.lt q hq
theorem UGo.refl (h : UR u w F K k d) : UGo u w F K k d w := ⟨F, h, Sub.refl _ _, Fr.refl _ _⟩
theorem UGo.trans (h1 : Sub F1 F w) (h2 : Fr F w w1) (h : UGo u w1 F1 K k d w2) : UGo u w F K k d w2 := by
 obtain ⟨F', a1, a2, a3⟩ := h
 exact ⟨F', a1, h1.fr h2 a2, h2.via h1 a3⟩
theorem UGo.old (h : UGo u w F K k d w1) (f : Fr [] w0 w) : UGo u w0 F K k d w1 := by
 obtain ⟨F', h1, h2, h3⟩ := h
 exact ⟨F', h1, h2.old f.size, f.nil.same h3⟩
theorem UGo.fr (h : UGo u w F K k d w1) (f : Fr [] w1 w2) : UGo u w F K k d w2 := by
 obtain ⟨F', h1, h2, h3⟩ := h
 exact ⟨F', h1.fr0 f, h2, h3.same f.nil⟩
/-- The rows are changed. -/
theorem UR.rows {F1 Fk Fd : List Nat} {K' : Rows} (h2 : KRep w u.kp Fk k) (h3 : DRep w u.dp Fd d) (d1 : Dis F1 Fk) (d2 : Dis F1 Fd) (d3 : Dis Fk Fd) (g : EGo IRepU 3 213 w u.e u.g u.cap u.x F1 K' [.int .i64 (u.c : Nat), .int .i64 (u.wi : Nat), .int .i64 (u.ma : Nat), .int .i64 (u.pr : Nat), .pointer (some ⟨u.kp, 0, none⟩), .pointer (some ⟨u.dp, 0, none⟩)] w') : UGo u w (F1 ++ (Fk ++ Fd)) K' k d w' := by
 obtain ⟨F', a, b, f⟩ := g
 exact ⟨F' ++ (Fk ++ Fd), ⟨F', Fk, Fd, rfl, a, h2.fr f d1.symm, h3.fr f d2.symm, d1.sub b h2.lt, d2.sub b h3.lt, d3⟩, append_sub b, f.mono (fun q hq _ => by simp [hq])⟩
theorem UR.setD {F1 Fk Fd : List Nat} {d' : Dr} (h1 : ERows IRepU 3 213 w u.e u.g u.cap u.x F1 K [.int .i64 (u.c : Nat), .int .i64 (u.wi : Nat), .int .i64 (u.ma : Nat), .int .i64 (u.pr : Nat), .pointer (some ⟨u.kp, 0, none⟩), .pointer (some ⟨u.dp, 0, none⟩)]) (h2 : KRep w u.kp Fk k) (d1 : Dis F1 Fk) (d2 : Dis F1 Fd) (d3 : Dis Fk Fd) (a : DRep w' u.dp Fd d') (f : Fr Fd w w') :
  UR u w' (F1 ++ (Fk ++ Fd)) K k d' ∧ Fr (F1 ++ (Fk ++ Fd)) w w' :=
 ⟨⟨F1, Fk, Fd, rfl, h1.fr irokU f d2, h2.fr f d3, a, d1, d2, d3⟩, f.mono (fun q hq _ => by simp [hq])⟩
theorem UR.add (h : UR u w F K k d) (hd : d.Inv) (key : ByteArray) (hz : key.size ≤ maxLen) :
  Calls Tryz.prog 405 #[.pointer (some ⟨u.dp, 0, none⟩), .string key] w fun en w' => en = .returned (.bool (d.has key)) ∧ UR u w' F K k (d.add key) ∧ Fr F w w' := by
 obtain ⟨F1, Fk, Fd, rfl, a, b, c, d1, d2, d3⟩ := h
 refine (dadd hd c key hz).mono ?_
 rintro en w' ⟨rfl, h, f⟩
 exact ⟨rfl, UR.setD a b d1 d2 d3 h f⟩
theorem UR.clear (h : UR u w F K k d) (hd : d.Inv) :
  Calls Tryz.prog 408 #[.pointer (some ⟨u.dp, 0, none⟩)] w fun en w' => en = .returned (.tuple #[]) ∧ UR u w' F K k d.clear ∧ Fr F w w' := by
 obtain ⟨F1, Fk, Fd, rfl, a, b, c, d1, d2, d3⟩ := h
 refine (dclear hd c).mono ?_
 rintro en w' ⟨rfl, h, f⟩
 exact ⟨rfl, UR.setD a b d1 d2 d3 h f⟩
theorem UR.er (h : UR u w F K k d) : ∃ F1, ERows IRepU 3 213 w u.e u.g u.cap u.x F1 K [.int .i64 (u.c : Nat), .int .i64 (u.wi : Nat), .int .i64 (u.ma : Nat), .int .i64 (u.pr : Nat), .pointer (some ⟨u.kp, 0, none⟩), .pointer (some ⟨u.dp, 0, none⟩)] := by
 obtain ⟨F1, Fk, Fd, rfl, a, b, c, d1, d2, d3⟩ := h
 exact ⟨F1, a⟩
theorem UR.cells (h : UR u w F K k d) : w.cell? ⟨u.e, 0, none⟩ = some (.slice (some ⟨u.g, 0, none⟩) 3 u.cap) ∧ w.cell? ⟨u.e, 1, none⟩ = some (.pointer (some ⟨u.x, 0, none⟩)) ∧ w.cell? ⟨u.e, 2, none⟩ = some (.int .i64 (u.c : Nat)) ∧ w.cell? ⟨u.e, 3, none⟩ = some (.int .i64 (u.wi : Nat)) ∧
  w.cell? ⟨u.e, 4, none⟩ = some (.int .i64 (u.ma : Nat)) ∧ w.cell? ⟨u.e, 5, none⟩ = some (.int .i64 (u.pr : Nat)) ∧ w.cell? ⟨u.e, 6, none⟩ = some (.pointer (some ⟨u.kp, 0, none⟩)) ∧ w.cell? ⟨u.e, 7, none⟩ = some (.pointer (some ⟨u.dp, 0, none⟩)) := by
 obtain ⟨F1, h⟩ := h.er
 exact ⟨h.k0, h.k1, h.kr0, h.kr1, h.kr2, h.kr3, h.kr4, h.kr5⟩
set_option maxRecDepth 100000 in
theorem uoften (H : UR u w F K k d) (hk : k.Inv) (hd : d.Inv) (key : ByteArray) (hz : key.size ≤ maxLen) {n : Nat} (hn : k.count key + (d.has key).toNat = n) :
  Calls Tryz.prog 411 #[.pointer (some ⟨u.e, 0, none⟩), .string key] w fun en w' => en = .returned (.int .i64 (n : Nat)) ∧ Fr [] w w' := by
 obtain ⟨_, _, _, _, _, _, k6, k7⟩ := H.cells
 have hc15 : k.count key ≤ 15 := by have := hk.le (k.at key 0); have := count_le k key 0 (by omega); omega
 obtain ⟨F1, Fk, Fd, rfl, a, b, c, d1, d2, d3⟩ := H
 have HC := Lib.hid (kcountR b hk key hz)
 have HD := Lib.hid fun (W : World) (f : Fr [] w W) => dhasR (c.fr f (fun b _ => by simp)) hd key hz
 obtain ⟨h, hh⟩ : ∃ h, d.has key = h := ⟨_, rfl⟩
 obtain ⟨cn, hcn⟩ : ∃ h, k.count key = h := ⟨_, rfl⟩
 rw [hh] at HD hn
 rw [hcn] at HC hn hc15
 subst hn
 clear a b c d1 d2 d3 hk hd hh hcn
 cases h
 all_goals
  go_enter Tryz.func411, Tryz.ntmps411
  go_wp2_with fail
  refine HC.out.mono ?_
  rintro en w1 ⟨rfl, f1⟩
  have k7 := cell_fr f1 k7 (by simp)
  have HF := Lib.hid f1
  clear f1
  go_wp2_with fail
  refine (HD.out _ HF.out).mono ?_
  rintro en w2 ⟨rfl, f2⟩
  have HF := Lib.hid (HF.out.same f2)
  clear f2
  go_wp2
  go_ret
  exact ⟨by simp, HF.out⟩
end
end Go.Proofs.YtfeicmpbfbhiiaaGreat
set_option linter.unusedVariables false
set_option linter.unusedSimpArgs false
namespace Go.Proofs.YtfeicmpbfbhiiaaGreat
open Go.RowKit
attribute [local go_sem ↓] Go.wp_at_zero Go.wp_at_succ
section
variable {u : UC} {w : World} {F : List Nat} {K : Rows} {k : Sk} {d : Dr}
end
end Go.Proofs.YtfeicmpbfbhiiaaGreat
set_option linter.unusedVariables false
set_option linter.unusedSimpArgs false
namespace Go.Proofs.YtfeicmpbfbhiiaaGreat
open Go.RowKit
open Act renaming put → pE0
open List renaming getElem_toArray → pE1, getElem_cons_succ → pE2, getElem_cons_zero → pE3, setIfInBounds_toArray → pE4, set_cons_zero → pE5, set_cons_succ → pE6
attribute [local go_sem ↓] Go.wp_at_zero Go.wp_at_succ
def oft (k : Sk) (d : Dr) (key : ByteArray) : Nat := k.count key + (d.has key).toNat
def UGRet (u : UC) (w : World) (F : List Nat) (l : List ByteArray) (K : Rows) (k : Sk) (d : Dr) (en : Ending) (w' : World) : Prop :=
 ∃ v F', en = .returned v ∧ Gone w w' v l ∧ UR u w' F' K k d ∧ Sub F' F w ∧ Fr F w w' ∧ Dis v.ownBlock.toList F'
section
variable {u : UC} {w w0 w1 : World} {F : List Nat} {K : Rows} {k : Sk} {d : Dr}
theorem UR.nd (H : UR u w F K k d) : RNd 3 K := by
 obtain ⟨F1, h⟩ := H.er
 exact h.nd
theorem UR.push (H : UR u w F K k d) (ht : tot 3 K ≤ 80000) {r : Nat} (hr : r < 3) (key : ByteArray) (hz : key.size ≤ maxLen) :
  Calls Tryz.prog 397 #[(.agg #[.slice (some ⟨u.g, 0, none⟩) 3 u.cap, .pointer (some ⟨u.x, 0, none⟩)]), .int .i64 r, .string key] w fun en w' => en = .returned (.tuple #[]) ∧ UGo u w F (pushK K r key) k d w' := by
 obtain ⟨F1, Fk, Fd, rfl, a, b, c, d1, d2, d3⟩ := H
 refine (epushU a ht hr key hz).mono ?_
 rintro en w' ⟨rfl, h⟩
 exact ⟨rfl, UR.rows b c d1 d2 d3 h⟩
theorem UR.drop (H : UR u w F K k d) (ht : tot 3 K ≤ 80000) (key : ByteArray) (hz : key.size ≤ maxLen) :
  Calls Tryz.prog 402 #[(.agg #[.slice (some ⟨u.g, 0, none⟩) 3 u.cap, .pointer (some ⟨u.x, 0, none⟩)]), .string key] w fun en w' => en = .returned (.tuple #[]) ∧ UGo u w F (dropK K key) k d w' := by
 obtain ⟨F1, Fk, Fd, rfl, a, b, c, d1, d2, d3⟩ := H
 refine (edropU a ht key hz).mono ?_
 rintro en w' ⟨rfl, h⟩
 exact ⟨rfl, UR.rows b c d1 d2 d3 h⟩
theorem UR.oldest (H : UR u w F K k d) {r : Nat} (hr : r < 3) {o : ByteArray} (ho : oldest K r = o) :
  Calls Tryz.prog 399 #[(.agg #[.slice (some ⟨u.g, 0, none⟩) 3 u.cap, .pointer (some ⟨u.x, 0, none⟩)]), .int .i64 r] w fun en w' => en = .returned (.string o) ∧ Fr [] w w' := by
 obtain ⟨F1, h⟩ := H.er
 rw [← ho]
 exact eoldestU h hr
theorem UR.where (H : UR u w F K k d) (key : ByteArray) (hz : key.size ≤ maxLen) :
  Calls Tryz.prog 396 #[(.agg #[.slice (some ⟨u.g, 0, none⟩) 3 u.cap, .pointer (some ⟨u.x, 0, none⟩)]), .string key] w fun en w' => ∃ r : Int, en = .returned (.int .i64 r) ∧ AtRow 3 K key r ∧ Fr [] w w' := by
 obtain ⟨F1, h⟩ := H.er
 exact ewhereU h key hz
theorem UR.often (H : UR u w F K k d) (hk : k.Inv) (hd : d.Inv) (key : ByteArray) (hz : key.size ≤ maxLen) :
  Calls Tryz.prog 411 #[.pointer (some ⟨u.e, 0, none⟩), .string key] w fun en w' => en = .returned (.int .i64 (oft k d key : Nat)) ∧ Fr [] w w' := uoften H hk hd key hz rfl
theorem UGRet.nil (h : UGo u w F K k d w1) : UGRet u w F [] K k d (.returned (.slice none 0 0)) w1 := by
 obtain ⟨F', a, b, c⟩ := h
 exact ⟨_, F', rfl, Gone.nil _ _, a, b, c, by intro b hb; simp [Value.ownBlock] at hb⟩
theorem UGRet.one (h : UGo u w F K k d w1) (key : ByteArray) {T1 : TypeId} (hT : T1 = 9) : UGRet u w F [key] K k d (.returned (.slice (some ⟨w1.heap.size, 0, none⟩) 1 1)) (w1.alloc (.cells #[.string key] T1)) := by
 obtain ⟨F', a, b, c⟩ := h
 have hl := a.lt
 refine ⟨_, F', rfl, Gone.one _ _ c.size _ _ hT, a.fr0 ((Fr.refl [] _).alloc _), b, c.alloc _, ?_⟩
 intro q hq hf
 simp [Value.ownBlock] at hq
 have := hl q hf
 omega
end
end Go.Proofs.YtfeicmpbfbhiiaaGreat
set_option linter.unusedVariables false
set_option linter.unusedSimpArgs false
namespace Go.Proofs.YtfeicmpbfbhiiaaGreat
open Go.RowKit
attribute [local go_sem ↓] Go.wp_at_zero Go.wp_at_succ
def EU (w : World) (e : Nat) (F : List Nat) (s : Tiny) : Prop := s.Inv ∧ ∃ u : UC, u.e = e ∧ u.c = s.c ∧ u.wi = s.window ∧ u.ma = s.main ∧ u.pr = s.prot ∧ UR u w F s.K s.k s.d
theorem EU.fr {w w' : World} {e : Nat} {F G : List Nat} {s : Tiny} (h : EU w e F s) (f : Fr G w w') (hd : Dis F G) : EU w' e F s := by
 obtain ⟨hi, u, a, b, c, d, g, h⟩ := h
 exact ⟨hi, u, a, b, c, d, g, h.fr f hd⟩
theorem EU.lt {w : World} {e : Nat} {F : List Nat} {s : Tiny} (h : EU w e F s) : Lt F w := by
 obtain ⟨hi, u, a, b, c, d, g, h⟩ := h
 exact h.lt
def Tiny.new (room : Int) : Tiny := ⟨fun _ => [], Sk.new (roomN room), Dr.new (roomN room), roomN room⟩
theorem pow2From_p8 (r : Nat) : ∀ f a, (a = 1 ∨ a = 2 ∨ a = 4 ∨ 8 ∣ a) → (pow2From r f a = 1 ∨ pow2From r f a = 2 ∨ pow2From r f a = 4 ∨ 8 ∣ pow2From r f a)
 | 0, a, h => h
 | f + 1, a, h => by
  unfold pow2From
  split
  ·exact pow2From_p8 r f (a * 2) (by omega)
  ·exact h
theorem Dr.Inv.new {room : Nat} (h2 : room ≤ 1024) : (Dr.new room).Inv := by
 obtain ⟨a, b⟩ := pow2From_bd room 11 1 (by omega) h2
 refine ⟨Nat.le_max_left _ _, ?_, ?_⟩
 ·show max 64 (8 * _) ≤ _; omega
 ·show 64 ∣ max 64 (8 * pow2From room 11 1)
  have h8 := pow2From_p8 room 11 1 (.inl rfl)
  omega
theorem Tiny.Inv.new (room : Int) : (Tiny.new room).Inv := by
 obtain ⟨h1, h2⟩ := roomN_bd room
 exact ⟨RNd.nil 3, h1, h2, by simp [Tiny.new], by simp [Tiny.new], by simp [Tiny.new], Sk.Inv.new h2, Dr.Inv.new h2⟩
theorem unew_ret {w w1 w2 w3 : World} {room v v1 v2 v3 : Int} {F1 F2 F3 : List Nat} {g cap x kp dp : Nat} (hr : RRep IRepU 3 w1 (.agg #[.slice (some ⟨g, 0, none⟩) 3 cap, .pointer (some ⟨x, 0, none⟩)]) F1 (fun _ => [])) (hge : Ge w.heap.size F1) (hf1 : Fr [] w w1)
  (hk : KRep w2 kp F2 (Sk.new (roomN room))) (hge2 : Ge w1.heap.size F2) (hf2 : Fr [] w1 w2) (hd : DRep w3 dp F3 (Dr.new (roomN room))) (hge3 : Ge w2.heap.size F3) (hf3 : Fr [] w2 w3)
  (hv : (roomN room : Int) = v) (hv1 : ((Tiny.new room).window : Int) = v1) (hv2 : ((Tiny.new room).main : Int) = v2) (hv3 : ((Tiny.new room).prot : Int) = v3) :
  NewRet EU w (Tiny.new room) (.returned (.pointer (some ⟨w3.heap.size, 0, none⟩))) (w3.alloc (.cells #[.slice (some ⟨g, 0, none⟩) 3 cap, .pointer (some ⟨x, 0, none⟩), .int .i64 v, .int .i64 v1, .int .i64 v2, .int .i64 v3, .pointer (some ⟨kp, 0, none⟩), .pointer (some ⟨dp, 0, none⟩)] 213)) := by
 subst hv hv1 hv2 hv3
 have hl1 := hr.lt irokU
 have hl2 := hk.lt
 have hl3 := hd.lt
 have hs1 := hf1.size
 have hs2 := hf2.size
 have hs3 := hf3.size
 have fa : Fr [] w3 (w3.alloc (.cells #[.slice (some ⟨g, 0, none⟩) 3 cap, .pointer (some ⟨x, 0, none⟩), .int .i64 (roomN room : Nat), .int .i64 ((Tiny.new room).window : Nat), .int .i64 ((Tiny.new room).main : Nat), .int .i64 ((Tiny.new room).prot : Nat), .pointer (some ⟨kp, 0, none⟩), .pointer (some ⟨dp, 0, none⟩)] 213)) := (Fr.refl [] _).alloc _
 have dn : ∀ F : List Nat, Dis F [] := fun F b _ => by simp
 refine ⟨w3.heap.size, (w3.heap.size :: F1) ++ (F2 ++ F3), rfl, ⟨Tiny.Inv.new room, ⟨w3.heap.size, g, cap, x, kp, dp, roomN room, (Tiny.new room).window, (Tiny.new room).main, (Tiny.new room).prot⟩, rfl, rfl, rfl, rfl, rfl, w3.heap.size :: F1, F2, F3, rfl, ⟨F1, rfl, fun h => ?_, block_alloc_new _ _, hr.fr irokU ((hf2.same hf3).same fa) (dn _)⟩, (hk.fr hf3 (dn _)).fr fa (dn _), hd.fr fa (dn _), ?_, ?_, ?_⟩, ?_, ((hf1.same hf2).same hf3).alloc _⟩
 ·have : w3.heap.size < w1.heap.size := hl1 _ h; omega
 ·intro b hb hb2
  have h2 := hge2 b hb2
  have h3 := hl2 b hb2
  rcases List.mem_cons.1 hb with rfl | hb
  ·omega
  ·have := hl1 b hb; omega
 ·intro b hb hb2
  have h2 := hge3 b hb2
  have h3 := hl3 b hb2
  rcases List.mem_cons.1 hb with rfl | hb
  ·omega
  ·have := hl1 b hb; omega
 ·intro b hb hb2
  have h2 := hge3 b hb2
  have := hl2 b hb; omega
 ·intro b hb
  simp at hb
  rcases hb with rfl | hb | hb | hb
  ·omega
  ·exact hge b hb
  ·have := hge2 b hb; omega
  ·have := hge3 b hb; omega
set_option maxHeartbeats 4000000 in
set_option maxRecDepth 100000 in
theorem unew (w : World) (room : Int) (h0 : -9223372036854775808 ≤ room) (h1 : room ≤ 9223372036854775807) : Calls Tryz.prog 95 #[.int .i64 room] w (NewRet EU w (Tiny.new room)) := by
 have h : room ≤ 1 ∨ (∃ n : Nat, room = n ∧ 1 < n ∧ n < 16) ∨ (∃ n : Nat, room = n ∧ 16 ≤ n ∧ n ≤ 1024) ∨ 1024 < room := by
  by_cases a : room ≤ 1
  ·exact .inl a
  ·by_cases b : 1024 < room
   ·exact .inr (.inr (.inr b))
   ·by_cases c : room < 16
    ·exact .inr (.inl ⟨room.toNat, by omega, by omega, by omega⟩)
    ·exact .inr (.inr (.inl ⟨room.toNat, by omega, by omega, by omega⟩))
 rcases h with h | ⟨n, rfl, hn1, hn2⟩ | ⟨n, rfl, hn1, hn2⟩ | h
 ·have HR : Hid (roomN room = 1) := by show _ = _; unfold roomN; omega
  have h2 : room < 1 ∨ room = 1 := by omega
  rcases h2 with h2 | rfl
  all_goals
   go_enter Tryz.func95, Tryz.ntmps95
   go_wp2_with fail
   refine (rnewU _).mono ?_
   rintro en w1 ⟨v, F1, rfl, hr, hge, hf1⟩
   obtain ⟨g, cap, x, rfl, hgl⟩ := hr.form
   have HX := Lib.hid (And.intro hr (And.intro hge hf1))
   clear hr hge hf1
   go_wp2_with fail
   refine (knew _ 1 (by omega) (by omega)).mono ?_
   rintro en w2 ⟨kp, F2, rfl, hk, hge2, hf2⟩
   have HY := Lib.hid (And.intro hk (And.intro hge2 hf2))
   clear hk hge2 hf2
   go_wp2_with fail
   refine (dnew _ 1 (by omega) (by omega)).mono ?_
   rintro en w3 ⟨dp, F3, rfl, hd, hge3, hf3⟩
   have HZ := Lib.hid (And.intro hd (And.intro hge3 hf3))
   clear hd hge3 hf3
   go_wp2
   go_ret
   rw [← HR.out] at HY HZ
   refine unew_ret HX.out.1 HX.out.2.1 HX.out.2.2 HY.out.1 HY.out.2.1 HY.out.2.2 HZ.out.1 HZ.out.2.1 HZ.out.2.2 ?_ ?_ ?_ ?_
   all_goals
    simp only [Tiny.prot, Tiny.main, Tiny.window, Tiny.new, HR.out]
    try omega
 ·have HR : Hid (roomN (n : Int) = n) := by show _ = _; unfold roomN; omega
  by_cases h8 : n < 8
  ·have q8 : (n : Int) / 8 < 1 := by omega
   go_enter Tryz.func95, Tryz.ntmps95
   go_wp2_with fail
   refine (rnewU _).mono ?_
   rintro en w1 ⟨v, F1, rfl, hr, hge, hf1⟩
   obtain ⟨g, cap, x, rfl, hgl⟩ := hr.form
   have HX := Lib.hid (And.intro hr (And.intro hge hf1))
   clear hr hge hf1
   go_wp2_with fail
   refine (knew _ n (by omega) (by omega)).mono ?_
   rintro en w2 ⟨kp, F2, rfl, hk, hge2, hf2⟩
   have HY := Lib.hid (And.intro hk (And.intro hge2 hf2))
   clear hk hge2 hf2
   go_wp2_with fail
   refine (dnew _ n (by omega) (by omega)).mono ?_
   rintro en w3 ⟨dp, F3, rfl, hd, hge3, hf3⟩
   have HZ := Lib.hid (And.intro hd (And.intro hge3 hf3))
   clear hd hge3 hf3
   go_wp2
   go_ret
   rw [← HR.out] at HY HZ
   refine unew_ret HX.out.1 HX.out.2.1 HX.out.2.2 HY.out.1 HY.out.2.1 HY.out.2.2 HZ.out.1 HZ.out.2.1 HZ.out.2.2 ?_ ?_ ?_ ?_
   all_goals
    simp only [Tiny.prot, Tiny.main, Tiny.window, Tiny.new, HR.out]
    try omega
  ·have q8 : (n : Int) / 8 = 1 := by omega
   go_enter Tryz.func95, Tryz.ntmps95
   go_wp2_with fail
   refine (rnewU _).mono ?_
   rintro en w1 ⟨v, F1, rfl, hr, hge, hf1⟩
   obtain ⟨g, cap, x, rfl, hgl⟩ := hr.form
   have HX := Lib.hid (And.intro hr (And.intro hge hf1))
   clear hr hge hf1
   go_wp2_with fail
   refine (knew _ n (by omega) (by omega)).mono ?_
   rintro en w2 ⟨kp, F2, rfl, hk, hge2, hf2⟩
   have HY := Lib.hid (And.intro hk (And.intro hge2 hf2))
   clear hk hge2 hf2
   go_wp2_with fail
   refine (dnew _ n (by omega) (by omega)).mono ?_
   rintro en w3 ⟨dp, F3, rfl, hd, hge3, hf3⟩
   have HZ := Lib.hid (And.intro hd (And.intro hge3 hf3))
   clear hd hge3 hf3
   go_wp2
   go_ret
   rw [← HR.out] at HY HZ
   refine unew_ret HX.out.1 HX.out.2.1 HX.out.2.2 HY.out.1 HY.out.2.1 HY.out.2.2 HZ.out.1 HZ.out.2.1 HZ.out.2.2 ?_ ?_ ?_ ?_
   all_goals
    simp only [Tiny.prot, Tiny.main, Tiny.window, Tiny.new, HR.out]
    try omega
 ·have HR : Hid (roomN (n : Int) = n) := by show _ = _; unfold roomN; omega
  have q8 : 1 < (n : Int) / 8 := by omega
  go_enter Tryz.func95, Tryz.ntmps95
  go_wp2_with fail
  refine (rnewU _).mono ?_
  rintro en w1 ⟨v, F1, rfl, hr, hge, hf1⟩
  obtain ⟨g, cap, x, rfl, hgl⟩ := hr.form
  have HX := Lib.hid (And.intro hr (And.intro hge hf1))
  clear hr hge hf1
  go_wp2_with fail
  refine (knew _ n (by omega) (by omega)).mono ?_
  rintro en w2 ⟨kp, F2, rfl, hk, hge2, hf2⟩
  have HY := Lib.hid (And.intro hk (And.intro hge2 hf2))
  clear hk hge2 hf2
  go_wp2_with fail
  refine (dnew _ n (by omega) (by omega)).mono ?_
  rintro en w3 ⟨dp, F3, rfl, hd, hge3, hf3⟩
  have HZ := Lib.hid (And.intro hd (And.intro hge3 hf3))
  clear hd hge3 hf3
  go_wp2
  go_ret
  rw [← HR.out] at HY HZ
  refine unew_ret HX.out.1 HX.out.2.1 HX.out.2.2 HY.out.1 HY.out.2.1 HY.out.2.2 HZ.out.1 HZ.out.2.1 HZ.out.2.2 ?_ ?_ ?_ ?_
  all_goals
   simp only [Tiny.prot, Tiny.main, Tiny.window, Tiny.new, HR.out]
   try omega
 ·have HR : Hid (roomN room = 1024) := by show _ = _; unfold roomN; omega
  go_enter Tryz.func95, Tryz.ntmps95
  go_wp2_with fail
  refine (rnewU _).mono ?_
  rintro en w1 ⟨v, F1, rfl, hr, hge, hf1⟩
  obtain ⟨g, cap, x, rfl, hgl⟩ := hr.form
  have HX := Lib.hid (And.intro hr (And.intro hge hf1))
  clear hr hge hf1
  go_wp2_with fail
  refine (knew _ 1024 (by omega) (by omega)).mono ?_
  rintro en w2 ⟨kp, F2, rfl, hk, hge2, hf2⟩
  have HY := Lib.hid (And.intro hk (And.intro hge2 hf2))
  clear hk hge2 hf2
  go_wp2_with fail
  refine (dnew _ 1024 (by omega) (by omega)).mono ?_
  rintro en w3 ⟨dp, F3, rfl, hd, hge3, hf3⟩
  have HZ := Lib.hid (And.intro hd (And.intro hge3 hf3))
  clear hd hge3 hf3
  go_wp2
  go_ret
  rw [← HR.out] at HY HZ
  refine unew_ret HX.out.1 HX.out.2.1 HX.out.2.2 HY.out.1 HY.out.2.1 HY.out.2.2 HZ.out.1 HZ.out.2.1 HZ.out.2.2 ?_ ?_ ?_ ?_
  all_goals
   simp only [Tiny.prot, Tiny.main, Tiny.window, Tiny.new, HR.out]
   try omega
end Go.Proofs.YtfeicmpbfbhiiaaGreat
