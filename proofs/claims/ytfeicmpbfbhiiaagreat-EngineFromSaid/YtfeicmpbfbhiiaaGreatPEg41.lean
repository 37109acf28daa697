/- Texts of a proof about the given program, those parts that this claim reaches. -/
import Derived.Test.YtfeicmpbfbhiiaaGreatPEg40
import Derived.Shelf.Strings.BuilderK
import Derived.Shelf.Strings.OnBuilder
import Derived.Test.YtfeicmpbfbhiiaaGreatProg
import Derived.Test.YtfeicmpbfbhiiaaGreatPEg39
import Derived.Test.YtfeicmpbfbhiiaaGreatPEg36
set_option linter.unusedVariables false
set_option linter.unusedSimpArgs false
namespace Go.Proofs.YtfeicmpbfbhiiaaGreat
open Go.RowKit
attribute [local go_sem ↓] Go.wp_at_zero Go.wp_at_succ
theorem infoByte : (Tryz.prog.info? 5).map (fun i => (i.zero, i.size, i.bytes)) = some (some (.int .u8 0), 1, 1) := by kernel_rfl
theorem sizeBuilder : (Tryz.prog.info? 319).map (·.size) = some 2 := by kernel_rfl
set_option maxRecDepth 100000 in
theorem bcopyF {w : World} {b : Nat} (h0 : w.cell? ⟨b, 0, none⟩ = some (.pointer none)) (hsh : w.shape? b = some (319, 2)) (hfz : w.frozen? ⟨b, 0, none⟩ = false) :
  Calls Tryz.prog 316 #[ptr b] w fun e w' => e = .returned (.tuple #[]) ∧ w' = w.setCell ⟨b, 0, none⟩ (ptr b) := by
 obtain ⟨j, hj, hjs⟩ := Option.map_eq_some_iff.1 sizeBuilder
 have hc1 : (convert 317 329 (.pointer (some ⟨b, 0, none⟩))).run Tryz.prog w = .ok (.pointer (some ⟨b, 0, none⟩)) w := Lib.run_to_unsafe w ⟨b, 0, none⟩ (t := 319) (by kernel_rfl) (by kernel_rfl) hj (by rw [hjs]; decide) hsh (Nat.zero_lt_succ 1)
 have hc2 : (convert 329 317 (.pointer (some ⟨b, 0, none⟩))).run Tryz.prog w = .ok (.pointer (some ⟨b, 0, none⟩)) w := Lib.run_from_unsafe w ⟨b, 0, none⟩ (u := 319) (by kernel_rfl) (by kernel_rfl) hj hsh (by kernel_rfl)
 have hc3 : (callFunc 319 #[.pointer (some ⟨b, 0, none⟩)]).run Tryz.prog w = .ok (.value (.pointer (some ⟨b, 0, none⟩))) w := by
  rw [run_callFunc_extern Tryz.func319 (by kernel_rfl) (by kernel_rfl) (by kernel_rfl) (e := Extern.AbiNoEscape.same) (by kernel_rfl), Lib.run_noEscape]
  rfl
 clear hj hjs
 go_enter Tryz.func316, Tryz.ntmps316
 go_wp2
 go_end0
 exact ⟨rfl, rfl⟩
set_option maxRecDepth 100000 in
theorem bcopyU {w : World} {b : Nat} (h0 : w.cell? ⟨b, 0, none⟩ = some (.pointer (some ⟨b, 0, none⟩))) :
  Calls Tryz.prog 316 #[.pointer (some ⟨b, 0, none⟩)] w fun e w' => e = .returned (.tuple #[]) ∧ w' = w := by
 obtain ⟨j, hj, hjs⟩ := Option.map_eq_some_iff.1 sizeBuilder
 have hn := Lib.run_neq_ptr_same (P := Tryz.prog) w ⟨b, 0, none⟩ (tp := 317) (te := 319) (by kernel_rfl) hj
 clear hj hjs
 go_enter Tryz.func316, Tryz.ntmps316
 go_wp2
 go_end0
 exact ⟨rfl, rfl⟩
theorem bcopy {B b : Nat} {bs : List Value} {w : World} (h : Lib.IsBuilderF 319 5 B b bs w) :
  Calls Tryz.prog 316 #[.pointer (some ⟨b, 0, none⟩)] w fun e w' => e = .returned (.tuple #[]) ∧ (Lib.BuilderAtF 319 5 B b (.pointer (some ⟨b, 0, none⟩)) bs w' ∧ Below B w w' ∧ Lib.OthersKept 5 (some b) w w') := by
 rcases h with h | h
 ·refine (bcopyF h.cell0 h.shape h.frozen0).mono ?_
  rintro e w' ⟨rfl, rfl⟩
  exact ⟨rfl, h.used _, (Below.refl B w).setCell (p := ⟨b, 0, none⟩) h.1 _, (Lib.OthersKept.refl _ _ w).setCell ⟨b, 0, none⟩ rfl _⟩
 ·refine (bcopyU h.cell0).mono ?_
  rintro e w' ⟨rfl, rfl⟩
  exact ⟨rfl, h, Below.refl B _, Lib.OthersKept.refl _ _ _⟩
set_option maxHeartbeats 400000 in
set_option maxRecDepth 100000 in
theorem bwrite {B b : Nat} {bs : List Value} {w : World} (h : Lib.IsBuilderF 319 5 B b bs w) (s : ByteArray) (hlen : bs.length + s.size ≤ 140737488355328) (hB : B ≤ w.heap.size) :
  Calls Tryz.prog 309 #[.pointer (some ⟨b, 0, none⟩), .string s] w fun e w' => e = .returned (.tuple #[.int .i64 s.size, .nilIface]) ∧ Lib.IsBuilderF 319 5 B b (bs ++ Lib.strCells s) w' ∧ Below B w w' ∧ Lib.OthersKept 5 (some b) w w' := by
 obtain ⟨i0, hi, hz0, hz1, hz2⟩ := info_parts2 infoByte
 have HC := Lib.hid (bcopy h)
 clear h
 go_enter Tryz.func309, Tryz.ntmps309
 go_wp2_with fail
 refine HC.out.mono ?_
 rintro e w1 ⟨rfl, ⟨hBb, v, hbk, hown, hne⟩, hb1, hk1⟩
 have c0 : w1.cell? ⟨b, 0, none⟩ = some (.pointer (some ⟨b, 0, none⟩)) := by rw [Lib.cell_of_heap hbk]; rfl
 have c1 : w1.cell? ⟨b, 1, none⟩ = some v := by rw [Lib.cell_of_heap hbk]; rfl
 go_wp2_with (at_builtin; refine Lib.wpList_append_own_stringF _ rfl _ _ 161 9 rfl B 5 i0 Tryz.underlying161 Tryz.underlying9 hi hz0 hz1 hz2 _ _ _ rfl hown s rfl ?c3 ?c4 ?c5 ?_)
 case c3 => unfold maxLen; omega
 case c4 => omega
 case c5 => have := hb1.size; omega
 intro v' w2 hown' hgrow _
 have hlt : b < w1.heap.size := lt_of_block hbk
 have hb2 : w2.heap[b]? = some (.cells #[.pointer (some ⟨b, 0, none⟩), v] 319 (0, 0)) := by
  rw [hgrow.block b hlt (fun e => hne e.symm)]
  exact hbk
 have d1 : w2.cell? ⟨b, 1, none⟩ = some v := by rw [Lib.cell_of_heap hb2]; rfl
 have f1 : w2.frozen? ⟨b, 1, none⟩ = false := free_of_block hb2 1
 obtain ⟨ao, n', cap, rfl⟩ : ∃ ao n' cap, v' = .slice ao n' cap := by
  rcases hown'.2 with ⟨hv, _⟩ | ⟨g, cap, cur, fz, hv, _⟩
  ·exact ⟨_, _, _, hv⟩
  ·exact ⟨_, _, _, hv⟩
 have HR : Hid (Lib.IsBuilderF 319 5 B b (bs ++ Lib.strCells s) (w2.setCell ⟨b, 1, none⟩ (.slice ao n' cap)) ∧ Below B w (w2.setCell ⟨b, 1, none⟩ (.slice ao n' cap)) ∧ Lib.OthersKept 5 (some b) w (w2.setCell ⟨b, 1, none⟩ (.slice ao n' cap))) :=
  ⟨.inr (Lib.BuilderAtF.put (T := 319) (e := 5) hBb hb2 (bs' := bs ++ Lib.strCells s) (by simpa [Lib.strCells_length] using hown') (by decide)), (hb1.grown hgrow (by have := hb1.size; omega) (fun k hk => (hown.lt k hk).1)).setCell (p := ⟨b, 1, none⟩) hBb _, (hk1.grown hgrow (Lib.ownsRowF_kind hown)).setCell ⟨b, 1, none⟩ rfl _⟩
 clear hown hown' hgrow hb1 hbk hb2 hk1
 go_wp2
 go_ret2
 exact ⟨rfl, HR.out⟩
end Go.Proofs.YtfeicmpbfbhiiaaGreat
namespace Go.Proofs
open Go.Shelf
def Tryz.lays169_ren : Go.Shelf.Ren := ⟨fun | 169 => 310 | n => n, fun | 70 => 317 | 9 => 9 | 0 => 0 | 72 => 319 | 37 => 161 | 127 => 304 | 3 => 3 | 5 => 5 | n => n, fun | n => n⟩
theorem Tryz.lays169 : Go.Proofs.Lays.n169 Tryz.prog Tryz.lays169_ren := {
 mixed := by kernel_rfl
 f169 := Tryz.func310.trans (congrArg some (by kernel_rfl))
 t0 := Tryz.underlying0
 a0 := Tryz.isAgg0
 z0 := Tryz.sizeOf0
 v0 := Tryz.zeroValue0
 t3 := Tryz.underlying3
 a3 := Tryz.isAgg3
 z3 := Tryz.sizeOf3
 v3 := Tryz.zeroValue3
 t9 := Tryz.underlying9
 a9 := Tryz.isAgg9
 z9 := Tryz.sizeOf9
 v9 := Tryz.zeroValue9
 t37 := Tryz.underlying161
 a37 := Tryz.isAgg161
 z37 := Tryz.sizeOf161
 v37 := Tryz.zeroValue161
 t70 := Tryz.underlying317
 a70 := Tryz.isAgg317
 z70 := Tryz.sizeOf317
 v70 := Tryz.zeroValue317
 t72 := Tryz.underlying319
 a72 := Tryz.isAgg319
 z72 := Tryz.sizeOf319
 v72 := Tryz.zeroValue319
 t127 := Tryz.underlying304
 a127 := Tryz.isAgg304
 z127 := Tryz.sizeOf304
 v127 := Tryz.zeroValue304 }
theorem Tryz.Builder_Extra_169 : Builder.Extra Tryz.prog Tryz.lays169_ren := {
 sizeBuilder := by kernel_rfl
 liesBuilder := by kernel_rfl
 t5 := Tryz.underlying5
 a5 := Tryz.isAgg5
 z5 := Tryz.sizeOf5
 v5 := Tryz.zeroValue5
 infoByte := by kernel_rfl
 cellsByte := by kernel_rfl
 sizeByte := by kernel_rfl
 neB5 := by decide }
open Go.RowKit in
theorem Tryz.Builder_String_any_k (B b : Nat) (l : List UInt8) (w : World) (h : Lib.IsBuilderF 319 5 B b (Lib.byteCells l) w) (hBw : B ≤ w.heap.size) :
  Calls Tryz.prog 310 #[.pointer (some ⟨b, 0, none⟩)] w fun e w' => e = .returned (.string ⟨l.toArray⟩) ∧ (Lib.IsBuilderF 319 5 B b (Lib.byteCells l) w' ∧ Below B w w' ∧ Lib.OthersKept 5 (some b) w w') := Any.Builder_String_any_k Tryz.lays169 Tryz.Builder_Extra_169 B b l w h hBw
end Go.Proofs
set_option linter.unusedVariables false
set_option linter.unusedSimpArgs false
namespace Go.Proofs.YtfeicmpbfbhiiaaGreat
open Go.RowKit
attribute [local go_sem ↓] Go.wp_at_zero Go.wp_at_succ
/-- A builder that holds t; it lies from B on. -/
def BT (B b : Nat) (t : ByteArray) (w : World) : Prop := Lib.IsBuilderF 319 5 B b (Lib.byteCells t.data.toList) w ∧ B ≤ w.heap.size
/-- The rows of strings are as they were. -/
def KeptS (w w' : World) : Prop := ∀ (k : Nat) (c : Array Value), w.heap[k]? = some (Obj.cells c 9 (0, 0)) → w'.heap[k]? = some (Obj.cells c 9 (0, 0))
theorem KeptS.trans {a b c : World} (h : KeptS a b) (k : KeptS b c) : KeptS a c := fun i x hi => k i x (h i x hi)
theorem KeptS.fr {w w' : World} (f : Fr [] w w') : KeptS w w' := fun i x hi => f.get hi (by simp)
theorem KeptS.of {B b : Nat} {bs : List Value} {w w' : World} (h : Lib.IsBuilderF 319 5 B b bs w) (k : Lib.OthersKept 5 (some b) w w') : KeptS w w' := by
 intro i c hi
 refine k i _ hi ?_ (by intro c' fz e; simp at e)
 intro e
 simp at e
 subst e
 rcases h with ⟨_, v, hv, _⟩ | ⟨_, v, hv, _⟩
 ·rw [hi] at hv; simp at hv
 ·rw [hi] at hv; simp at hv
theorem KeptS.ss {w w' : World} {v : Value} {l : List ByteArray} (k : KeptS w w') (h : SS w v l) : SS w' v l := by
 refine ⟨h.1, ?_⟩
 rcases h.2 with hh | ⟨g, off, cap, cur, h1, hgg, r⟩
 ·exact .inl hh
 ·exact .inr ⟨g, off, cap, cur, h1, k _ _ hgg, r⟩
theorem BT.write {B b : Nat} {t : ByteArray} {w : World} (h : BT B b t w) (s : ByteArray) (hlen : t.size + s.size ≤ 140737488355328) :
  Calls Tryz.prog 309 #[.pointer (some ⟨b, 0, none⟩), .string s] w fun e w' => e = .returned (.tuple #[.int .i64 s.size, .nilIface]) ∧ BT B b (t ++ s) w' ∧ Below B w w' ∧ KeptS w w' := by
 refine (bwrite h.1 s (by rw [Lib.byteCells_length, Array.length_toList]; exact hlen) h.2).mono ?_
 rintro e w' ⟨rfl, a, c, k⟩
 refine ⟨rfl, ⟨?_, Nat.le_trans h.2 c.size⟩, c, KeptS.of h.1 k⟩
 have e : Lib.byteCells t.data.toList ++ Lib.strCells s = Lib.byteCells (t ++ s).data.toList := by simp [Lib.byteCells, Lib.strCells, ByteArray.data_append]
 rw [← e]; exact a
theorem BT.string {B b : Nat} {t : ByteArray} {w : World} (h : BT B b t w) :
  Calls Tryz.prog 310 #[.pointer (some ⟨b, 0, none⟩)] w fun e w' => e = .returned (.string t) ∧ Below B w w' := by
 refine (Tryz.Builder_String_any_k B b t.data.toList w h.1 h.2).mono ?_
 rintro e w' ⟨rfl, a, c, _⟩
 exact ⟨rfl, c⟩
theorem BT.new (w : World) : BT w.heap.size w.heap.size ⟨#[]⟩ (w.alloc (.cells #[.pointer none, .slice none 0 0] 319)) := by
 refine ⟨Lib.IsBuilderF.of (.inl ⟨Nat.le_refl _, _, Array.getElem?_push_size, ⟨by simp [Lib.byteCells], .inl ⟨rfl, rfl⟩⟩, by simp [Value.ownBlock]⟩), by simp⟩
theorem atF_below {T e : TypeId} {B b : Nat} {p : Value} {bs : List Value} {W W' : World} (h : Lib.BuilderAtF T e B b p bs W) (hb : Below W.heap.size W W') : Lib.BuilderAtF T e B b p bs W' := by
 have hlt := h.lt
 obtain ⟨hB, v, hv, hown, hne⟩ := h
 exact ⟨hB, v, (hb.block b hlt).trans hv, hown.kept (row := none) ⟨hb.os, hb.tape, hb.output, hb.size, fun k hk _ => hb.block k hk⟩ (Classical.em _), hne⟩
theorem BT.fr {B b : Nat} {t : ByteArray} {w w' : World} (h : BT B b t w) (f : Fr [] w w') : BT B b t w' :=
 ⟨h.1.elim (fun x => .inl (atF_below x (f.below (Nat.le_refl _)))) (fun x => .inr (atF_below x (f.below (Nat.le_refl _)))), Nat.le_trans h.2 f.size⟩
end Go.Proofs.YtfeicmpbfbhiiaaGreat
set_option linter.unusedVariables false
set_option linter.unusedSimpArgs false
namespace Go.Proofs.YtfeicmpbfbhiiaaGreat
open Go.RowKit
attribute [local go_sem ↓] Go.wp_at_zero Go.wp_at_succ
/-- How the program writes what a key is. -/
def sfxL (n : Nat) : ByteArray := match n with | 1 => ⟨#[47, 104]⟩ | 2 => ⟨#[47, 99]⟩ | 3 => ⟨#[47, 103]⟩ | _ => ⟨#[]⟩
theorem cellU_sfx (k : ByteArray) (n : Nat) (h1 : 1 ≤ n) (h3 : n ≤ 3) : cellU (k, isB n) = k ++ sfxL n := by
 unfold cellU
 rw [ba_assoc]
 obtain rfl | rfl | rfl : n = 1 ∨ n = 2 ∨ n = 3 := by omega
 ·rfl
 ·rfl
 ·rfl
theorem ixL1 (w : World) : (Instr.index 350 (.agg #[.string ⟨#[]⟩, .string ⟨#[47, 104]⟩, .string ⟨#[47, 99]⟩, .string ⟨#[47, 103]⟩]) (.int .i64 1)).run Tryz.prog w = .ok (.string ⟨#[47, 104]⟩) w := by kernel_rfl
theorem ixL2 (w : World) : (Instr.index 350 (.agg #[.string ⟨#[]⟩, .string ⟨#[47, 104]⟩, .string ⟨#[47, 99]⟩, .string ⟨#[47, 103]⟩]) (.int .i64 2)).run Tryz.prog w = .ok (.string ⟨#[47, 99]⟩) w := by kernel_rfl
theorem ixL3 (w : World) : (Instr.index 350 (.agg #[.string ⟨#[]⟩, .string ⟨#[47, 104]⟩, .string ⟨#[47, 99]⟩, .string ⟨#[47, 103]⟩]) (.int .i64 3)).run Tryz.prog w = .ok (.string ⟨#[47, 103]⟩) w := by kernel_rfl
theorem ixL (n : Nat) (h1 : 1 ≤ n) (h3 : n ≤ 3) (w : World) : (Instr.index 350 (.agg #[.string ⟨#[]⟩, .string ⟨#[47, 104]⟩, .string ⟨#[47, 99]⟩, .string ⟨#[47, 103]⟩]) (.int .i64 (n : Nat))).run Tryz.prog w = .ok (.string (sfxL n)) w := by
 obtain rfl | rfl | rfl : n = 1 ∨ n = 2 ∨ n = 3 := by omega
 ·exact ixL1 w
 ·exact ixL2 w
 ·exact ixL3 w
set_option maxHeartbeats 2000000 in
set_option maxRecDepth 100000 in
theorem lstate {w : World} {e : Nat} {F : List Nat} {s : Lirs} (H : EL w e F s) (hs : ∀ x ∈ s.S, x.1.size ≤ 9000) (hq : Short 9000 s.Q) : Calls Tryz.prog 341 #[ptr e] w fun en w' => en = .returned (.string s.text) ∧ Fr [] w w' := by
 have hln := H.1.lens
 obtain ⟨hi, u, rfl, hc, hm, ls, Ht, hco⟩ := H
 obtain ⟨_, _, k2, k3, k4, _, _⟩ := Ht.cells
 have HOK := Lib.hid hi.si.ok
 have HAS : Hid (∀ W, Fr [] w W → Calls Tryz.prog 306 #[.pointer (some ⟨u.sp, 0, none⟩)] W (KeysRet W (s.S.map (·.1)))) := fun W f => (Ht.fr0 f).allS hco.ls
 have HAQ : Hid (∀ W, Fr [] w W → Calls Tryz.prog 306 #[.pointer (some ⟨u.qp, 0, none⟩)] W (KeysRet W s.Q)) := fun W f => (Ht.fr0 f).allQ hco.lq
 have HGET := Lib.hid fun (W : World) (f : Fr [] w W) (j : Nat) (hj : j < s.S.length) => (Ht.fr0 f).get s.S[j].1 (Nat.le_trans (hs _ (List.getElem_mem hj)) (by decide)) ((hco.get hi.si s.S[j].1).trans (by rw [kind_at hi.si j hj]))
 unfold Lirs.text
 rw [joinB_two]
 have HSH := Lib.hid (cellU_short hs)
 have HSQ := Lib.hid (hq.mono (m := 10000) (by decide))
 have HSZ := Lib.hid hs
 generalize s.S = S at *
 generalize s.Q = Q at *
 obtain ⟨n, hn⟩ : ∃ n, S.length = n := ⟨_, rfl⟩
 obtain ⟨n1, hn1⟩ : ∃ n, Q.length = n := ⟨_, rfl⟩
 have HN : Hid (S.length = n ∧ (S.map (·.1)).length = n ∧ ((stkB S).map cellU).length = n) := ⟨hn, by rw [List.length_map, hn], by rw [List.length_map, stkB_len, hn]⟩
 have HN1 : Hid (Q.length = n1) := hn1
 have HRJ : Hid (∀ j (hj : j < S.length) (hr : j < ((stkB S).map cellU).length), ((stkB S).map cellU)[j] = S[j].1 ++ sfxL S[j].2) := fun j hj hr => by
  have h3 := HOK.out _ (List.getElem_mem hj)
  rw [← cellU_sfx _ _ (by omega) (by omega)]
  simp [stkB]
 obtain ⟨r, hr⟩ : ∃ r, (stkB S).map cellU = r := ⟨_, rfl⟩
 rw [hr] at HSH HN HRJ ⊢
 obtain ⟨hlS, hlQ⟩ := hln
 rw [hn] at hlS
 rw [hn1] at hlQ
 clear hi hc hm Ht hco hs hq hn hn1 hr
 have HK3 := Lib.hid k3
 have HK4 := Lib.hid k4
 have HIX : Hid (∀ n, 1 ≤ n → n ≤ 3 → ∀ w, (Instr.index 350 (.agg #[.string ⟨#[]⟩, .string ⟨#[47, 104]⟩, .string ⟨#[47, 99]⟩, .string ⟨#[47, 103]⟩]) (.int .i64 (n : Nat))).run Tryz.prog w = .ok (.string (sfxL n)) w) := fun n h1 h3 w => ixL n h1 h3 w
 go_enter Tryz.func341, Tryz.ntmps341
 go_wp2_with fail
 refine ((BT.new w).write ⟨#[83, 58]⟩ (by decide)).mono ?_
 rintro en w1 ⟨rfl, hB1, hb1, _⟩
 have F1 : Fr [] w w1 := Fr.ofBelow ((((Fr.refl [] w).alloc _).below (Nat.le_refl _)).trans hb1)
 have HB1 := Lib.hid hB1
 replace k2 := cell_fr F1 k2 (by simp)
 have HF1 := Lib.hid F1
 clear hB1 hb1 F1
 go_wp2_with fail
 refine (HAS.out _ HF1.out).mono ?_
 rintro en w2 ⟨v, rfl, hgo, f2⟩
 obtain ⟨va, vc, hv⟩ := hgo.1.form
 rw [HN.out.2.1] at hv
 subst hv
 have HS2 : Hid (SS w2 (.slice va n vc) (S.map (·.1))) := hgo.1
 have HF2 : Hid (Fr [] w w2) := HF1.out.same f2
 have HB2 : Hid (BT w.heap.size w.heap.size (textB ⟨#[83]⟩ []) w2) := by
  have := HB1.out.fr f2
  show BT _ _ _ _
  rw [textB_nil]; exact this
 clear hgo f2 k2 k3 k4 HB1 HF1
 go_wp2_with fail
 go_loopw [19] (fun u19 wr => ∃ (j : Nat) (t : ByteArray), j ≤ n ∧ u19 = .int .i64 j ∧ Hid (BT w.heap.size w.heap.size t wr) ∧ Hid (t = textB ⟨#[83]⟩ (r.take j)) ∧ Hid (Fr [] w wr) ∧ Hid (SS wr (.slice va n vc) (S.map (·.1)))) (fun u19 _ => n - (intOf u19).toNat)
 case atStart => exact ⟨0, _, by omega, rfl, HB2, by rw [List.take_zero]; rfl, HF2, HS2⟩
 case round =>
  obtain ⟨j, t, hj, rfl, hB, hT, hF, hS⟩ := hrel
  have hts : t.size ≤ 100000000 := by
   rw [hT.out]
   exact text_size (by decide) (fun k hk => HSH.out k (List.mem_of_mem_take hk)) (by rw [List.length_take, HN.out.2.2]; omega)
  by_cases hlt : j < n
  ·have hjl : j < S.length := by rw [HN.out.1]; exact hlt
   have hjr : j < r.length := by rw [HN.out.2.2]; exact hlt
   obtain ⟨gb, go, rfl, x0⟩ := RowAt.str (i := j) hS.out (by rw [HN.out.2.1]; exact hlt)
   rw [List.getElem_map] at x0
   have HGJ := HGET.out wr hF.out j hjl
   have k4 := cell_fr hF.out HK4.out (by simp)
   have q1 : (j : Int) < (n : Int) := by omega
   have h3 := HOK.out _ (List.getElem_mem hjl)
   have hz := HSZ.out _ (List.getElem_mem hjl)
   have hix := HIX.out S[j].2 (by omega) (by omega)
   have HSN : Hid (textB ⟨#[83]⟩ (r.take (j + 1)) = t ++ (⟨#[32]⟩ ++ S[j].1 ++ sfxL S[j].2)) := by
    show _ = _
    rw [List.take_add_one, List.getElem?_eq_getElem hjr, HRJ.out j hjl hjr]
    show textB _ (r.take j ++ [S[j].1 ++ sfxL S[j].2]) = _
    rw [textB_snoc, ← hT.out, ba_assoc, ba_assoc]
   have hsx : (sfxL S[j].2).size = 2 := by
    obtain h | h | h : S[j].2 = 1 ∨ S[j].2 = 2 ∨ S[j].2 = 3 := by omega
    ·rw [h]; rfl
    ·rw [h]; rfl
    ·rw [h]; rfl
   obtain ⟨sx, hsxe⟩ : ∃ k, sfxL S[j].2 = k := ⟨_, rfl⟩
   obtain ⟨key, hke⟩ : ∃ k, S[j].1 = k := ⟨_, rfl⟩
   obtain ⟨kd, hkd⟩ : ∃ k, S[j].2 = k := ⟨_, rfl⟩
   rw [hsxe] at hix HSN hsx
   rw [hke] at x0 HGJ HSN hz
   rw [hkd] at HGJ hix
   obtain ⟨y, hy⟩ : ∃ x, hOf ls.LS key = x := ⟨_, rfl⟩
   obtain ⟨z, hz2⟩ : ∃ x, hOf ls.LQ key = x := ⟨_, rfl⟩
   rw [hy, hz2] at HGJ
   have HGJ := Lib.hid HGJ
   have q2 : ¬ 9223372036854775807 < 1 + key.size := by omega
   have q3 : ¬ 9223372036854775807 < 1 + key.size + sx.size := by omega
   have hw : t.size + (⟨#[32]⟩ ++ key ++ sx : ByteArray).size ≤ 140737488355328 := by
    rw [ByteArray.size_append, ByteArray.size_append]
    have e1 : (⟨#[32]⟩ : ByteArray).size = 1 := rfl
    omega
   have HW := Lib.hid hw
   clear hw hke hkd hsxe h3 hy hz2 hsx
   go_wp2_with fail
   refine HGJ.out.mono ?_
   rintro en w3 ⟨⟨bb, rfl⟩, f3⟩
   have HB3 := Lib.hid (hB.out.fr f3)
   have HF3 := Lib.hid (hF.out.same f3)
   have HS3 : Hid (SS w3 _ _) := SS.fr0 hS.out f3
   clear f3 x0
   go_wp2_with fail
   refine ((HB3.out.fr ((Fr.refl [] _).alloc _)).write _ HW.out).mono ?_
   rintro en w4 ⟨rfl, hB4, hb4, hk4⟩
   have HB4 := Lib.hid hB4
   have HF4 : Hid (Fr [] w w4) := Fr.ofBelow (((HF3.out.alloc _).below (Nat.le_refl _)).trans hb4)
   have HS4 : Hid (SS w4 _ _) := hk4.ss (SS.fr0 HS3.out ((Fr.refl [] _).alloc _))
   clear hB4 hb4 hk4
   go_wp2_with fail
   exact ⟨⟨j + 1, _, by omega, by go_num, HB4, HSN.out.symm, HF4, HS4⟩, by simp [intOf]; omega⟩
  ·have : n = j := by omega
   subst this
   have hT := hT.out
   rw [← HN.out.2.2, List.take_length] at hT
   have HT0 := Lib.hid hT
   clear hT
   go_wp2_with fail
   refine (hB.out.write ⟨#[59, 81, 58]⟩ (by have e : (⟨#[59, 81, 58]⟩ : ByteArray).size = 3 := rfl; omega)).mono ?_
   rintro en w4 ⟨rfl, hB4, hb4, _⟩
   obtain ⟨Z, hZ⟩ : ∃ Z, t ++ ⟨#[59]⟩ = Z := ⟨_, rfl⟩
   have hZs : Z.size ≤ 300000000 := by
    rw [← hZ, ByteArray.size_append]
    have e1 : (⟨#[59]⟩ : ByteArray).size = 1 := rfl
    omega
   have HA : t ++ ⟨#[59, 81, 58]⟩ = Z ++ textB ⟨#[81]⟩ [] := by
    rw [textB_nil, ← hZ, ba_assoc t ⟨#[59]⟩]
    rfl
   rw [HA] at hB4
   have HZ := Lib.hid hZ
   have HF4 : Hid (Fr [] w w4) := Fr.ofBelow ((hF.out.below (Nat.le_refl _)).trans hb4)
   have HB4 := Lib.hid hB4
   have k3 := cell_fr HF4.out HK3.out (by simp)
   clear hB4 hb4 HA hZ hS hB hF hts
   go_wp2_with fail
   refine (HAQ.out _ HF4.out).mono ?_
   rintro en w5 ⟨v, rfl, hgo, f5⟩
   obtain ⟨vb, vd, hv⟩ := hgo.1.form
   rw [HN1.out] at hv
   subst hv
   have HS5 : Hid (SS w5 (.slice vb n1 vd) Q) := hgo.1
   have HF5 : Hid (Fr [] w w5) := HF4.out.same f5
   have HB5 := Lib.hid (HB4.out.fr f5)
   clear hgo f5 k3
   go_wp2_with fail
   go_loopw [48] (fun u48 wr => ∃ (j : Nat) (t : ByteArray), j ≤ n1 ∧ u48 = .int .i64 j ∧ Hid (BT w.heap.size w.heap.size t wr) ∧ Hid (t = Z ++ textB ⟨#[81]⟩ (Q.take j)) ∧ Hid (Fr [] w wr) ∧ Hid (SS wr (.slice vb n1 vd) Q)) (fun u48 _ => n1 - (intOf u48).toNat)
   case atStart => exact ⟨0, _, by omega, rfl, HB5, by rw [List.take_zero]; rfl, HF5, HS5⟩
   case round =>
    obtain ⟨j, t2, hj, rfl, hB, hT, hF, hS⟩ := hrel
    have hts : t2.size ≤ 400000000 := by
     rw [hT.out, ByteArray.size_append]
     have := text_size (name := ⟨#[81]⟩) (by decide) (fun k hk => HSQ.out k (List.mem_of_mem_take (i := j) hk)) (by rw [List.length_take]; omega)
     omega
    by_cases hlt : j < n1
    ·have hjl : j < Q.length := by rw [HN1.out]; exact hlt
     obtain ⟨gb, go, rfl, x0⟩ := RowAt.str (i := j) hS.out hjl
     have q1 : (j : Int) < (n1 : Int) := by omega
     have hz : Q[j].size ≤ 10000 := HSQ.out _ (List.getElem_mem hjl)
     have HSN : Hid (Z ++ textB ⟨#[81]⟩ (Q.take (j + 1)) = t2 ++ (⟨#[32]⟩ ++ Q[j])) := by
      show _ = _
      rw [List.take_add_one, List.getElem?_eq_getElem hjl]
      show Z ++ textB _ (Q.take j ++ [Q[j]]) = _
      rw [textB_snoc, ba_assoc, ← ba_assoc Z, ← hT.out]
     obtain ⟨key, hke⟩ : ∃ k, Q[j] = k := ⟨_, rfl⟩
     rw [hke] at x0 HSN hz
     have q2 : ¬ 9223372036854775807 < 1 + key.size := by omega
     have hw : t2.size + (⟨#[32]⟩ ++ key : ByteArray).size ≤ 140737488355328 := by
      rw [ByteArray.size_append]
      have e1 : (⟨#[32]⟩ : ByteArray).size = 1 := rfl
      omega
     have HW := Lib.hid hw
     clear hw hke
     go_wp2_with fail
     refine (hB.out.write _ HW.out).mono ?_
     rintro en w6 ⟨rfl, hB6, hb6, hk6⟩
     have HB6 := Lib.hid hB6
     have HF6 : Hid (Fr [] w w6) := Fr.ofBelow ((hF.out.below (Nat.le_refl _)).trans hb6)
     have HS6 : Hid (SS w6 _ _) := hk6.ss hS.out
     clear hB6 hb6 hk6
     go_wp2_with fail
     exact ⟨⟨j + 1, _, by omega, by go_num, HB6, HSN.out.symm, HF6, HS6⟩, by simp [intOf]; omega⟩
    ·have : n1 = j := by omega
     subst this
     have hT := hT.out
     rw [← HN1.out, List.take_length] at hT
     have HT1 := Lib.hid hT
     clear hT
     go_wp2_with fail
     refine hB.out.string.mono ?_
     rintro en w7 ⟨rfl, hb7⟩
     have HF7 : Hid (Fr [] w w7) := Fr.ofBelow ((hF.out.below (Nat.le_refl _)).trans hb7)
     clear hb7
     go_wp2
     go_ret
     exact ⟨by rw [← HT0.out, HZ.out, ← HT1.out]; rfl, HF7.out⟩
end Go.Proofs.YtfeicmpbfbhiiaaGreat
set_option linter.unusedVariables false
set_option linter.unusedSimpArgs false
namespace Go.Proofs.YtfeicmpbfbhiiaaGreat
open Go.RowKit
theorem enWords {w : World} {e : Nat} {F : List Nat} {s : En} (h : EE w e F s) (ht : s.Tx) : Calls Tryz.prog (kState s.kd) #[ptr e] w (TextRet w s.words) := by
 cases s with
 | A s => exact astate h ht.1 (fun i => (ht.2 i).mono (by decide))
 | L s => exact lstate h ht.1 ht.2
 | Q s => exact qstate h (fun i => (ht i).mono (by decide))
 | U s => exact ustate h (fun i => (ht i).mono (by decide))
 | S s => exact s3state h ht
end Go.Proofs.YtfeicmpbfbhiiaaGreat
set_option linter.unusedVariables false
set_option linter.unusedSimpArgs false
namespace Go.Proofs.YtfeicmpbfbhiiaaGreat
/-- Only loads so far. -/
def En.Fresh : En → Prop
 | .A s => s.p = 0 ∧ s.K 2 = [] ∧ s.K 3 = [] ∧ ∀ i, Short 40 (s.K i)
 | .L s => (∀ x ∈ s.S, x.1.size ≤ 40 ∧ x.2 ≤ 2) ∧ Short 40 s.Q
 | .Q s => s.K 1 = [] ∧ ∀ i, Short 40 (s.K i)
 | .U s => ∀ i, Short 40 (s.K i)
 | .S s => s.K 2 = [] ∧ ∀ i, Short 40 (s.K i)
section
variable {K : Rows} {n r q : Nat} {key : ByteArray}
theorem Short.filt {l : List ByteArray} (h : Short n l) (p : ByteArray → Bool) : Short n (l.filter p) := fun k hk => h k (List.mem_filter.1 hk).1
theorem Short.add {l : List ByteArray} (h : Short n l) (hk : key.size ≤ n) : Short n (l ++ [key]) := by
 intro k hx
 rcases List.mem_append.1 hx with hx | hx
 ·exact h k hx
 ·obtain rfl := List.mem_singleton.1 hx
  exact hk
theorem pushK_short (h : ∀ i, Short n (K i)) (hk : key.size ≤ n) : ∀ i, Short n (pushK K r key i) := by
 intro i
 unfold pushK up
 split
 ·exact ((h _).filt _).add hk
 ·exact (h i).filt _
theorem pushK_nil (h : K q = []) (hq : q ≠ r) : pushK K r key q = [] := by
 unfold pushK up
 rw [if_neg hq]
 simp [dropK, h]
theorem trim_short (h : ∀ i, Short n (K i)) (m : Nat) : ∀ i, Short n (trim K r m i) := by
 intro i
 unfold trim up
 split
 ·exact fun k hk => h _ k (List.mem_of_mem_drop hk)
 ·exact h i
theorem trim_nil (h : K q = []) (m : Nat) : trim K r m q = [] := by
 unfold trim up
 split
 ·rename_i e; subst e; rw [h]; simp
 ·exact h
end
theorem mem_prune {S : Stk} {x : ByteArray × Nat} (h : x ∈ pruneS S) : x ∈ S := (pruneS_sub S).subset h
theorem mem_cut {S : Stk} {k : ByteArray} {x : ByteArray × Nat} (h : x ∈ cutS S k) : x ∈ S := (cutS_sub S k).subset h
theorem En.Fresh.load {s : En} (h : s.Fresh) {key : ByteArray} (hk : key.size ≤ 40) : (s.load key).2.Fresh := by
 cases s with
 | A s =>
  obtain ⟨h0, h2, h3, hs⟩ := h
  show En.Fresh (.A (s.load key).2)
  unfold Arc.load
  split
  ·exact ⟨h0, h2, h3, hs⟩
  ·refine ⟨h0, ?_, ?_, ?_⟩
   ·show arcTrim3 s.c (arcTrim2 s.c (pushK s.K 0 key)) 2 = []
    unfold arcTrim3 arcTrim2
    exact trim_nil (trim_nil (pushK_nil (r := 0) h2 (by decide)) _) _
   ·show arcTrim3 s.c (arcTrim2 s.c (pushK s.K 0 key)) 3 = []
    unfold arcTrim3 arcTrim2
    exact trim_nil (trim_nil (pushK_nil (r := 0) h3 (by decide)) _) _
   ·exact trim_short (trim_short (pushK_short hs hk) _) _
 | Q s =>
  obtain ⟨h1, hs⟩ := h
  show En.Fresh (.Q (s.load key).2)
  unfold Twoq.load
  split
  ·exact ⟨h1, hs⟩
  ·exact ⟨pushK_nil (r := 2) h1 (by decide), pushK_short hs hk⟩
 | U s =>
  show En.Fresh (.U (s.load key).2)
  unfold Tiny.load
  split
  ·exact h
  ·split
   ·exact pushK_short h hk
   ·exact pushK_short h hk
 | S s =>
  obtain ⟨h1, hs⟩ := h
  show En.Fresh (.S (s.load key).2)
  unfold S3.load
  split
  ·exact ⟨h1, hs⟩
  ·exact ⟨pushK_nil (r := 1) h1 (by decide), pushK_short hs hk⟩
 | L s =>
  obtain ⟨h1, h2⟩ := h
  show En.Fresh (.L (s.load key).2)
  have hh : ∀ x ∈ (s.heats1 key).S, x.1.size ≤ 40 ∧ x.2 ≤ 2 := by
   intro x hx
   rcases List.mem_append.1 hx with hx | hx
   ·exact h1 x (mem_cut hx)
   ·obtain rfl := List.mem_singleton.1 hx
    exact ⟨hk, by show _ ≤ 2; simp⟩
  have hq : Short 40 (cutQ s.Q key) := h2.filt _
  unfold Lirs.load
  split
  ·exact ⟨h1, h2⟩
  ·split
   ·unfold Lirs.heats
    split
    ·refine ⟨fun x hx => hh x (mem_cut (mem_prune (mem_prune hx))), ?_⟩
     refine Short.add hq ?_
     unfold lowS
     cases hf : (s.heats1 key).S.find? fun e => decide (e.2 = 1) with
     | none => decide
     | some y => exact (hh y (List.mem_of_find?_eq_some hf)).1
    ·exact ⟨fun x hx => hh x (mem_prune hx), hq⟩
   ·refine ⟨fun x hx => ?_, Short.add hq hk⟩
    rcases List.mem_append.1 (mem_prune hx) with hx | hx
    ·exact h1 x (mem_cut hx)
    ·obtain rfl := List.mem_singleton.1 hx
     exact ⟨hk, by show _ ≤ 2; simp⟩
theorem En.Fresh.new (k : Nat) (room : Int) : (En.new k room).Fresh := by
 have hn : Short 40 [] := fun k h => by cases h
 match k with
 | 0 => exact ⟨rfl, rfl, rfl, fun _ => hn⟩
 | 1 => exact ⟨(fun x h => by cases h), hn⟩
 | 2 => exact ⟨rfl, fun _ => hn⟩
 | 3 => exact fun _ => hn
 | n + 4 => exact ⟨rfl, fun _ => hn⟩
theorem En.Fresh.all {l : List ByteArray} (hl : Short 40 l) : ∀ {s : En}, s.Fresh → (loadAll s l).Fresh := by
 induction l with
 | nil => intro s h; exact h
 | cons k r ih =>
  intro s h
  exact ih (fun x hx => hl x (by simp [hx])) (h.load (hl k (by simp)))
theorem En.Fresh.tx {s : En} (h : s.Fresh) : s.Tx := by
 cases s with
 | A s => exact ⟨by rw [h.1]; decide, fun i => (h.2.2.2 i).mono (by decide)⟩
 | L s => exact ⟨fun x hx => Nat.le_trans (h.1 x hx).1 (by decide), h.2.mono (by decide)⟩
 | Q s => exact fun i => (h.2 i).mono (by decide)
 | U s => exact fun i => (h i).mono (by decide)
 | S s => exact fun i => (h.2 i).mono (by decide)
end Go.Proofs.YtfeicmpbfbhiiaaGreat
set_option linter.unusedVariables false
set_option linter.unusedSimpArgs false
namespace Go.Proofs.YtfeicmpbfbhiiaaGreat
open Go.RowKit
attribute [local go_sem ↓] Go.wp_at_zero Go.wp_at_succ
set_option maxRecDepth 100000 in
theorem ughosts (w : World) (e : Nat) : Calls Tryz.prog 387 #[ptr e] w (KeysRet w []) := by
 go_enter Tryz.func387, Tryz.ntmps387
 go_wp2
 go_ret
 exact ⟨_, rfl, Gone.nil _ _, Fr.refl _ _⟩
def kGhosts (k : Nat) : Nat := match k with | 0 => 284 | 1 => 334 | 2 => 363 | 3 => 387 | _ => 425
theorem findsGhosts (s : En) : Finds (kTy s.kd) "Ghosts" (kGhosts s.kd) := by
 have h := s.kd_lt
 have : s.kd = 0 ∨ s.kd = 1 ∨ s.kd = 2 ∨ s.kd = 3 ∨ s.kd = 4 := by omega
 rcases this with e | e | e | e | e <;> rw [e] <;> exact ⟨fun a w => by show _ = _; kernel_rfl, fun x w => by show _ = _; kernel_rfl⟩
theorem thoseS_none {S : Stk} (h : ∀ x ∈ S, x.1.size ≤ 40 ∧ x.2 ≤ 2) : thoseS S 3 = [] := by
 unfold thoseS
 rw [List.map_eq_nil_iff, List.filter_eq_nil_iff]
 intro x hx
 have := (h x hx).2
 simp
 omega
theorem enGhosts {w : World} {e : Nat} {F : List Nat} {s : En} (h : EE w e F s) (hf : s.Fresh) : Calls Tryz.prog (kGhosts s.kd) #[ptr e] w (KeysRet w []) := by
 cases s with
 | A s =>
  obtain ⟨hi, g, cap, x, h⟩ := h
  have := eGhostsA h
  rw [hf.2.1, hf.2.2.1] at this
  exact this
 | L s =>
  have := lghosts h
  unfold Lirs.ghosts at this
  rw [thoseS_none hf.1] at this
  exact this
 | Q s =>
  obtain ⟨hi, g, cap, x, h⟩ := h
  have := eGhostsQ h
  rw [hf.1] at this
  exact this
 | U s => exact ughosts w e
 | S s =>
  obtain ⟨hi, g, cap, x, y, H⟩ := h
  obtain ⟨F1, h⟩ := H.er
  have := eGhostsS h
  rw [hf.1] at this
  exact this
end Go.Proofs.YtfeicmpbfbhiiaaGreat
