/- Texts of a proof about the given program, those parts that this claim reaches. -/
import Derived.Test.YtfeicmpbfbhiiaaGreatPEg17
import Derived.Test.YtfeicmpbfbhiiaaGreatPEg19
import Derived.Test.YtfeicmpbfbhiiaaGreatPEg15
set_option linter.unusedVariables false
set_option linter.unusedSimpArgs false
namespace Go.Proofs.YtfeicmpbfbhiiaaGreat
open Go.RowKit
attribute [local go_sem ↓] Go.wp_at_zero Go.wp_at_succ
/-- A row of keys in new memory. -/
def KeysRet (w : World) (l : List ByteArray) (en : Ending) (w' : World) : Prop := ∃ v, en = .returned v ∧ Gone w w' v l ∧ Fr [] w w'
theorem AtRow.iff {k : Nat} {K : Rows} (hn : RNd k K) {key : ByteArray} {r : Int} (h : AtRow k K key r) : (∃ i : Nat, i < k ∧ r = i ∧ ∀ j, key ∈ K j ↔ j = i) ∨ (r = -1 ∧ ∀ j, key ∈ K j ↔ False) := by
 rcases h with ⟨i, h1, h2, h3⟩ | ⟨h1, h2⟩
 ·refine .inl ⟨i, h1, h2, fun j => ⟨fun h => ?_, fun h => h ▸ h3⟩⟩
  by_cases e : j = i
  ·exact e
  ·exact absurd h (hn.dis i j (Ne.symm e) key h3)
 ·exact .inr ⟨h1, fun j => ⟨fun h => h2 j h, fun h => h.elim⟩⟩
section
variable {w : World} {e g cap x : Nat} {F : List Nat} {K : Rows} {rest : List Value}
set_option maxRecDepth 100000 in
theorem ehasA (H : ERows IRepA 4 189 w e g cap x F K rest) (key : ByteArray) (hz : key.size ≤ maxLen) {b : Bool} (hb : decide (key ∈ K 0 ∨ key ∈ K 1) = b) :
  Calls Tryz.prog 285 #[.pointer (some ⟨e, 0, none⟩), .string key] w fun en w' => en = .returned (.bool b) ∧ Fr [] w w' := by
 have k0 := H.k0
 have k1 := H.k1
 have HW := Lib.hid (ewhereA H key hz)
 have HN := Lib.hid H.nd
 have HB := Lib.hid hb
 clear H hb
 go_enter Tryz.func285, Tryz.ntmps285
 go_wp2_with fail
 refine HW.out.mono ?_
 rintro en w1 ⟨r, rfl, har, hf⟩
 clear k0 k1 HW
 rcases har.iff HN.out with ⟨i, hi, rfl, hk⟩ | ⟨rfl, hk⟩
 ·have HK := Lib.hid hk
  have : i = 0 ∨ i = 1 ∨ i = 2 ∨ i = 3 := by omega
  clear hk
  rcases this with rfl | rfl | rfl | rfl
  all_goals first
   | omega
   | (go_wp2; go_ret; exact ⟨by rw [← HB.out]; simp [HK.out], hf⟩)
 ·have HK := Lib.hid hk
  clear hk
  go_wp2
  go_ret
  exact ⟨by rw [← HB.out]; simp [HK.out], hf⟩
set_option maxRecDepth 100000 in
theorem elenA (H : ERows IRepA 4 189 w e g cap x F K rest) {s : Nat} (hs : (K 0).length + (K 1).length = s) :
  Calls Tryz.prog 287 #[.pointer (some ⟨e, 0, none⟩)] w fun en w' => en = .returned (.int .i64 (s : Nat)) ∧ Fr [] w w' := by
 have k0 := H.k0
 have k1 := H.k1
 have HM := Lib.hid fun T0 => emany2A H 0 1 (by decide) (by decide) hs (T0 := T0)
 clear H hs
 go_enter Tryz.func287, Tryz.ntmps287
 go_wp2_with fail
 refine (HM.out _).mono ?_
 rintro en w1 ⟨rfl, hf⟩
 go_wp2
 go_ret
 exact ⟨rfl, hf⟩
end
section
variable {w : World} {e g cap x : Nat} {F : List Nat} {K : Rows} {rest : List Value}
set_option maxRecDepth 100000 in
theorem ehasQ (H : ERows IRepQ 3 203 w e g cap x F K rest) (key : ByteArray) (hz : key.size ≤ maxLen) {b : Bool} (hb : decide (key ∈ K 0 ∨ key ∈ K 2) = b) :
  Calls Tryz.prog 364 #[.pointer (some ⟨e, 0, none⟩), .string key] w fun en w' => en = .returned (.bool b) ∧ Fr [] w w' := by
 have k0 := H.k0
 have k1 := H.k1
 have HW := Lib.hid (ewhereQ H key hz)
 have HN := Lib.hid H.nd
 have HB := Lib.hid hb
 clear H hb
 go_enter Tryz.func364, Tryz.ntmps364
 go_wp2_with fail
 refine HW.out.mono ?_
 rintro en w1 ⟨r, rfl, har, hf⟩
 clear k0 k1 HW
 rcases har.iff HN.out with ⟨i, hi, rfl, hk⟩ | ⟨rfl, hk⟩
 ·have HK := Lib.hid hk
  have : i = 0 ∨ i = 1 ∨ i = 2 ∨ i = 3 := by omega
  clear hk
  rcases this with rfl | rfl | rfl | rfl
  all_goals first
   | omega
   | (go_wp2; go_ret; exact ⟨by rw [← HB.out]; simp [HK.out], hf⟩)
 ·have HK := Lib.hid hk
  clear hk
  go_wp2
  go_ret
  exact ⟨by rw [← HB.out]; simp [HK.out], hf⟩
set_option maxRecDepth 100000 in
theorem elenQ (H : ERows IRepQ 3 203 w e g cap x F K rest) {s : Nat} (hs : (K 0).length + (K 2).length = s) :
  Calls Tryz.prog 366 #[.pointer (some ⟨e, 0, none⟩)] w fun en w' => en = .returned (.int .i64 (s : Nat)) ∧ Fr [] w w' := by
 have k0 := H.k0
 have k1 := H.k1
 have HM := Lib.hid fun T0 => emany2Q H 0 2 (by decide) (by decide) hs (T0 := T0)
 clear H hs
 go_enter Tryz.func366, Tryz.ntmps366
 go_wp2_with fail
 refine (HM.out _).mono ?_
 rintro en w1 ⟨rfl, hf⟩
 go_wp2
 go_ret
 exact ⟨rfl, hf⟩
end
section
variable {w : World} {e g cap x : Nat} {F : List Nat} {K : Rows} {rest : List Value}
set_option maxRecDepth 100000 in
theorem ehasU (H : ERows IRepU 3 213 w e g cap x F K rest) (key : ByteArray) (hz : key.size ≤ maxLen) {b : Bool} (hb : decide (key ∈ K 0 ∨ key ∈ K 1 ∨ key ∈ K 2) = b) :
  Calls Tryz.prog 388 #[.pointer (some ⟨e, 0, none⟩), .string key] w fun en w' => en = .returned (.bool b) ∧ Fr [] w w' := by
 have k0 := H.k0
 have k1 := H.k1
 have HW := Lib.hid (ewhereU H key hz)
 have HN := Lib.hid H.nd
 have HB := Lib.hid hb
 clear H hb
 go_enter Tryz.func388, Tryz.ntmps388
 go_wp2_with fail
 refine HW.out.mono ?_
 rintro en w1 ⟨r, rfl, har, hf⟩
 clear k0 k1 HW
 rcases har.iff HN.out with ⟨i, hi, rfl, hk⟩ | ⟨rfl, hk⟩
 ·have HK := Lib.hid hk
  have : i = 0 ∨ i = 1 ∨ i = 2 ∨ i = 3 := by omega
  clear hk
  rcases this with rfl | rfl | rfl | rfl
  all_goals first
   | omega
   | (go_wp2; go_ret; exact ⟨by rw [← HB.out]; simp [HK.out], hf⟩)
 ·have HK := Lib.hid hk
  clear hk
  go_wp2
  go_ret
  exact ⟨by rw [← HB.out]; simp [HK.out], hf⟩
set_option maxRecDepth 100000 in
theorem elenU (H : ERows IRepU 3 213 w e g cap x F K rest) {s : Nat} (hs : (K 0).length + (K 1).length + (K 2).length = s) :
  Calls Tryz.prog 390 #[.pointer (some ⟨e, 0, none⟩)] w fun en w' => en = .returned (.int .i64 (s : Nat)) ∧ Fr [] w w' := by
 have k0 := H.k0
 have k1 := H.k1
 have HM := Lib.hid fun T0 => emany3U H 0 1 2 (by decide) (by decide) (by decide) hs (T0 := T0)
 clear H hs
 go_enter Tryz.func390, Tryz.ntmps390
 go_wp2_with fail
 refine (HM.out _).mono ?_
 rintro en w1 ⟨rfl, hf⟩
 go_wp2
 go_ret
 exact ⟨rfl, hf⟩
end
section
variable {w : World} {e g cap x : Nat} {F : List Nat} {K : Rows} {rest : List Value}
set_option maxRecDepth 100000 in
theorem ehasS (H : ERows IRepS 3 221 w e g cap x F K rest) (key : ByteArray) (hz : key.size ≤ maxLen) {b : Bool} (hb : decide (key ∈ K 0 ∨ key ∈ K 1) = b) :
  Calls Tryz.prog 426 #[.pointer (some ⟨e, 0, none⟩), .string key] w fun en w' => en = .returned (.bool b) ∧ Fr [] w w' := by
 have k0 := H.k0
 have k1 := H.k1
 have HW := Lib.hid (ewhereS H key hz)
 have HN := Lib.hid H.nd
 have HB := Lib.hid hb
 clear H hb
 go_enter Tryz.func426, Tryz.ntmps426
 go_wp2_with fail
 refine HW.out.mono ?_
 rintro en w1 ⟨r, rfl, har, hf⟩
 clear k0 k1 HW
 rcases har.iff HN.out with ⟨i, hi, rfl, hk⟩ | ⟨rfl, hk⟩
 ·have HK := Lib.hid hk
  have : i = 0 ∨ i = 1 ∨ i = 2 ∨ i = 3 := by omega
  clear hk
  rcases this with rfl | rfl | rfl | rfl
  all_goals first
   | omega
   | (go_wp2; go_ret; exact ⟨by rw [← HB.out]; simp [HK.out], hf⟩)
 ·have HK := Lib.hid hk
  clear hk
  go_wp2
  go_ret
  exact ⟨by rw [← HB.out]; simp [HK.out], hf⟩
set_option maxRecDepth 100000 in
theorem elenS (H : ERows IRepS 3 221 w e g cap x F K rest) {s : Nat} (hs : (K 0).length + (K 1).length = s) :
  Calls Tryz.prog 428 #[.pointer (some ⟨e, 0, none⟩)] w fun en w' => en = .returned (.int .i64 (s : Nat)) ∧ Fr [] w w' := by
 have k0 := H.k0
 have k1 := H.k1
 have HM := Lib.hid fun T0 => emany2S H 0 1 (by decide) (by decide) hs (T0 := T0)
 clear H hs
 go_enter Tryz.func428, Tryz.ntmps428
 go_wp2_with fail
 refine (HM.out _).mono ?_
 rintro en w1 ⟨rfl, hf⟩
 go_wp2
 go_ret
 exact ⟨rfl, hf⟩
end
set_option maxRecDepth 100000 in
theorem eGhostsA {w : World} {e g cap x : Nat} {F : List Nat} {K : Rows} {rest : List Value} (H : ERows IRepA 4 189 w e g cap x F K rest) :
  Calls Tryz.prog 284 #[.pointer (some ⟨e, 0, none⟩)] w (KeysRet w (K 2 ++ K 3)) := by
 have k0 := H.k0
 have k1 := H.k1
 have HM := Lib.hid fun (o : Obj) vs hv => ekeysA (H.fr0 irokA ((Fr.refl [] w).alloc o)) [2, 3] (vs := vs) hv (by decide) (by decide)
 have hl : ([2, 3] : List Nat).flatMap K = K 2 ++ K 3 := by simp
 rw [hl] at HM
 obtain ⟨L, hL⟩ : ∃ L, K 2 ++ K 3 = L := ⟨_, rfl⟩
 rw [hL] at HM ⊢
 clear H hl hL
 go_enter Tryz.func284, Tryz.ntmps284
 go_wp2_with fail
 refine (HM.out _ _ (Rd.lit2 2 3)).mono ?_
 rintro en w1 ⟨v, rfl, hsl, hge, hf⟩
 have HF : Hid (Gone w w1 v L ∧ Fr [] w w1) := ⟨⟨hsl, hge.mono (by simp)⟩, ((Fr.refl [] w).alloc _).same hf⟩
 obtain ⟨va, vc, rfl⟩ := hsl.form
 clear hsl hge hf
 go_wp2
 go_ret
 exact ⟨_, rfl, HF.out⟩
set_option maxRecDepth 100000 in
theorem eGhostsQ {w : World} {e g cap x : Nat} {F : List Nat} {K : Rows} {rest : List Value} (H : ERows IRepQ 3 203 w e g cap x F K rest) :
  Calls Tryz.prog 363 #[.pointer (some ⟨e, 0, none⟩)] w (KeysRet w (K 1)) := by
 have k0 := H.k0
 have k1 := H.k1
 have HM := Lib.hid fun (o : Obj) vs hv => ekeysQ (H.fr0 irokQ ((Fr.refl [] w).alloc o)) [1] (vs := vs) hv (by decide) (by decide)
 have hl : ([1] : List Nat).flatMap K = K 1 := by simp
 rw [hl] at HM
 obtain ⟨L, hL⟩ : ∃ L, K 1 = L := ⟨_, rfl⟩
 rw [hL] at HM ⊢
 clear H hl hL
 go_enter Tryz.func363, Tryz.ntmps363
 go_wp2_with fail
 refine (HM.out _ _ (Rd.lit1 1)).mono ?_
 rintro en w1 ⟨v, rfl, hsl, hge, hf⟩
 have HF : Hid (Gone w w1 v L ∧ Fr [] w w1) := ⟨⟨hsl, hge.mono (by simp)⟩, ((Fr.refl [] w).alloc _).same hf⟩
 obtain ⟨va, vc, rfl⟩ := hsl.form
 clear hsl hge hf
 go_wp2
 go_ret
 exact ⟨_, rfl, HF.out⟩
set_option maxRecDepth 100000 in
theorem eGhostsS {w : World} {e g cap x : Nat} {F : List Nat} {K : Rows} {rest : List Value} (H : ERows IRepS 3 221 w e g cap x F K rest) :
  Calls Tryz.prog 425 #[.pointer (some ⟨e, 0, none⟩)] w (KeysRet w (K 2)) := by
 have k0 := H.k0
 have k1 := H.k1
 have HM := Lib.hid fun (o : Obj) vs hv => ekeysS (H.fr0 irokS ((Fr.refl [] w).alloc o)) [2] (vs := vs) hv (by decide) (by decide)
 have hl : ([2] : List Nat).flatMap K = K 2 := by simp
 rw [hl] at HM
 obtain ⟨L, hL⟩ : ∃ L, K 2 = L := ⟨_, rfl⟩
 rw [hL] at HM ⊢
 clear H hl hL
 go_enter Tryz.func425, Tryz.ntmps425
 go_wp2_with fail
 refine (HM.out _ _ (Rd.lit1 2)).mono ?_
 rintro en w1 ⟨v, rfl, hsl, hge, hf⟩
 have HF : Hid (Gone w w1 v L ∧ Fr [] w w1) := ⟨⟨hsl, hge.mono (by simp)⟩, ((Fr.refl [] w).alloc _).same hf⟩
 obtain ⟨va, vc, rfl⟩ := hsl.form
 clear hsl hge hf
 go_wp2
 go_ret
 exact ⟨_, rfl, HF.out⟩
end Go.Proofs.YtfeicmpbfbhiiaaGreat
