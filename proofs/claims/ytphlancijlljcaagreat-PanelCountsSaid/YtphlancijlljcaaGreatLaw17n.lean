/- hoardlaw17: known, ShadowOfNothing. -/
import Derived.Test.YtphlancijlljcaaGreatShadow3
set_option linter.unusedVariables false
set_option linter.unusedSimpArgs false
namespace Go.Proofs.YtphlancijlljcaaGreat
open Go.RowKit
attribute [local go_sem ↓] Go.wp_at_zero Go.wp_at_succ
def kA : ByteArray := ⟨#[97]⟩
def kB : ByteArray := ⟨#[98]⟩
/-- The three keys of 'known', one behind the other. -/
def kn17 : Shd := (((((Shd.new 2 (En.new 2 1) 1).access kA).2.access kB).2).access kA).2
theorem kn17_ep : kn17.ep = ⟨3, 0, 1⟩ := by
 kernel_rfl
theorem known17 (w : World) : Calls Tryz.prog 20 #[] w fun e w' => e = .returned (.bool true) ∧ Fr [] w w' := by
 go_enter Tryz.func20, Tryz.ntmps20
 go_wp2_with fail
 refine (shnew _ 2 (by omega) 1 (by omega) (by omega)).mono ?_
 rintro en w1 ⟨p, F, rfl, h, hg, hf⟩
 have HF := Lib.hid (And.intro hg hf)
 clear hg hf
 go_wp2_with fail
 refine (shaccess h kA (by decide)).mono ?_
 rintro en w2 ⟨rfl, F2, h, hs, hf⟩
 have HF := Lib.hid (show Ge w.heap.size F2 ∧ Fr [] w w2 from ⟨hs.ge HF.out.1 HF.out.2.size, HF.out.2.fresh hf HF.out.1⟩)
 clear hs hf
 go_wp2_with fail
 refine (shaccess h kB (by decide)).mono ?_
 rintro en w3 ⟨rfl, F3, h, hs, hf⟩
 have HF := Lib.hid (show Ge w.heap.size F3 ∧ Fr [] w w3 from ⟨hs.ge HF.out.1 HF.out.2.size, HF.out.2.fresh hf HF.out.1⟩)
 clear hs hf
 go_wp2_with fail
 refine (shaccess h kA (by decide)).mono ?_
 rintro en w4 ⟨rfl, F4, h, hs, hf⟩
 have HF := Lib.hid (show Ge w.heap.size F4 ∧ Fr [] w w4 from ⟨hs.ge HF.out.1 HF.out.2.size, HF.out.2.fresh hf HF.out.1⟩)
 clear hs hf
 obtain ⟨e, q, Fe, Fg, rfl, h1, h2, h3, h4, h5, h6, h7⟩ := h
 have h4 : ShB w4 p _ _ q ⟨3, 0, 1⟩ _ := kn17_ep ▸ h4
 have HE := Lib.hid (shepoch h4)
 clear h1 h2 h3 h4 h5 h6 h7
 go_wp2_with fail
 refine HE.out.mono ?_
 rintro en w5 ⟨rfl, hb, hf⟩
 have HF := Lib.hid (HF.out.2.fresh (hf.mono (G := [p]) (by simp)) (fun b hb => HF.out.1 b (by simp at hb; simp [hb])))
 clear hb hf
 unfold Cts.val
 go_wp2
 go_ret
 exact ⟨rfl, HF.out⟩
set_option maxRecDepth 100000 in
theorem shadowOfNothing (key : ByteArray) (hk : key.size ≤ maxLen) (w : World) : Calls Tryz.prog 7 #[.string key] w fun e w' => e = .returned (.bool true) ∧ Fr [] w w' := by
 by_cases hs : 40 < key.size
 ·go_enter Tryz.func7, Tryz.ntmps7
  go_wp2
  go_ret
  exact ⟨rfl, Fr.refl _ _⟩
 ·go_enter Tryz.func7, Tryz.ntmps7
  go_wp2_with fail
  refine (shaccess_nil _ _).mono ?_
  rintro e w1 ⟨rfl, rfl⟩
  go_wp2_with fail
  refine (shEpoch_nil _).mono ?_
  rintro e w1 ⟨rfl, hf1⟩
  have HF := Lib.hid hf1
  clear hf1
  unfold Cts.val Cts.zero
  go_wp2_with fail
  refine (shTotal_nil _).mono ?_
  rintro e w2 ⟨rfl, hf2⟩
  have HF := Lib.hid (HF.out.same hf2)
  clear hf2
  unfold Cts.val Cts.zero
  go_wp2_with fail
  refine (shstate_nil _).mono ?_
  rintro e w3 ⟨rfl, rfl⟩
  go_wp2_with fail
  refine (shhist_nil _).mono ?_
  rintro e w3 ⟨rfl, rfl⟩
  go_wp2_with fail
  refine (shkind_nil _).mono ?_
  rintro e w3 ⟨rfl, rfl⟩
  go_wp2_with fail
  refine (known17 _).mono ?_
  rintro e w3 ⟨rfl, hf3⟩
  have HF := Lib.hid (HF.out.same hf3)
  clear hf3
  go_wp2
  go_ret
  exact ⟨rfl, HF.out⟩
end Go.Proofs.YtphlancijlljcaaGreat
