/- hoardlaw22.FeedWrites returns true for every two ints and every slice of acts, and leaves the slice as it was. No further condition. -/
/- The frame: printed by my frame.py off the guide's own print for this function. -/
import Derived.Test.YtapfkpkomdmibaaRows
import Derived.WalkKit
import Derived.Test.YtapfkpkomdmibaaArg
import Derived.Test.YtapfkpkomdmibaaArg
import Derived.Test.YtapfkpkomdmibaaLaw22w
import Derived.ProofKit
import Derived.OpenShut
import Derived.ShutString
import Derived.ChangeOld
import Derived.Below
import Derived.Carry
namespace Go.Proofs.Ytapfkpkomdmibaa.feedWrites
open Go.ChangeShapes Go.WideShapes Go.ChangeAt Go.RowKit
open Go.ChangeMaps (open_string shut_string)
set_option linter.unusedVariables false

theorem own : ownKnob Try.prog.godebug = none := by kernel_rfl
theorem laidOut : laidOutB Try.prog = true := by kernel_rfl
theorem cells56 : Try.prog.cellsOf 56 = 3 := by kernel_rfl
theorem cells3 : Try.prog.cellsOf 3 = 1 := by kernel_rfl
theorem cells9 : Try.prog.cellsOf 9 = 1 := by kernel_rfl
theorem dec_56 {H : Type} {enc : TypeId × Value → H} {w : World} {spare : Nat → Bool} {held : Bool} (n : Nat) (cs : List Value) (y : DataW H × List MemPlace) (h : DataW.trod enc Try.prog w 0 spare held n 56 cs = some y) : ∃ b : FAct, cs = b.enc ∧ ∀ u ∈ b.enc, Good u := by
  obtain ⟨xs, m, _, rfl, hl, hlen, hf⟩ := DataW.trod_struct Try.underlying56 h
  rw [cells56] at hl
  match cs, hl with
  | [c0, c1, c2], _ =>
    have f0 : DataW.trod enc Try.prog w 0 spare held m 3 (([c0, c1, c2].drop 0).take (Try.prog.cellsOf 3)) = xs[0]? := hf 0 _ rfl
    rw [cells3, List.getElem?_eq_getElem (by rw [hlen]; decide)] at f0
    simp only [List.drop, List.take] at f0
    have f1 : DataW.trod enc Try.prog w 0 spare held m 3 (([c0, c1, c2].drop 1).take (Try.prog.cellsOf 3)) = xs[1]? := hf 1 _ rfl
    rw [cells3, List.getElem?_eq_getElem (by rw [hlen]; decide)] at f1
    simp only [List.drop, List.take] at f1
    have f2 : DataW.trod enc Try.prog w 0 spare held m 9 (([c0, c1, c2].drop 2).take (Try.prog.cellsOf 9)) = xs[2]? := hf 2 _ rfl
    rw [cells9, List.getElem?_eq_getElem (by rw [hlen]; decide)] at f2
    simp only [List.drop, List.take] at f2
    obtain ⟨n0, e0, _, g0⟩ := DataW.trod_int Try.underlying3 f0
    simp at e0
    subst e0
    obtain ⟨n1, e1, _, g1⟩ := DataW.trod_int Try.underlying3 f1
    simp at e1
    subst e1
    obtain ⟨s2, e2, _, g2⟩ := DataW.trod_string Try.underlying9 f2
    simp at e2
    subst e2
    exact ⟨⟨n0, n1, s2⟩, rfl, by intro u hu; simp [FAct.enc] at hu; rcases hu with rfl | rfl | rfl <;> assumption⟩

theorem walk (w : World) (a0 : Int) (w0 : (Lit.int .i64 a0).wf = true) (a1 : Int) (w1 : (Lit.int .i64 a1).wf = true) (a2 : Option Addr) (cap2 : Nat) (l2 : List FAct) (m2 : l2.length ≤ maxLen) (w2 : Rd w 3 (.slice a2 l2.length cap2) l2.length (l2.flatMap FAct.enc)) (g2 : ∀ y ∈ l2, ∀ u ∈ FAct.enc y, Good u) :
    Calls Try.prog 7 #[.int .i64 a0, .int .i64 a1, .slice a2 l2.length cap2] w fun e w' => e = .returned (.bool true) ∧ Below w.heap.size w w' := by
  by_cases hin : heavyB l2 = true ∨ ¬ (0 ≤ a0 ∧ a0 ≤ 20 ∧ 1 ≤ a1 ∧ a1 ≤ 20)
  · exact (writes_out a0 a1 l2 _ w w2 m2 hin).mono fun e w' ⟨he, hf⟩ => ⟨he, hf.below (Nat.le_refl _)⟩
  · have hh : heavyB l2 = false := by cases h : heavyB l2 <;> simp_all
    have hr : 0 ≤ a0 ∧ a0 ≤ 20 ∧ 1 ≤ a1 ∧ a1 ≤ 20 := by
      apply Classical.byContradiction; intro h; exact hin (.inr h)
    obtain ⟨r, rfl⟩ := Int.eq_ofNat_of_zero_le hr.1
    obtain ⟨c, rfl⟩ := Int.eq_ofNat_of_zero_le (show 0 ≤ a1 by omega)
    exact (writes_in r c l2 _ w w2 m2 hh (by omega) (by omega) (by omega)).mono fun e w' ⟨he, hf⟩ => ⟨he, hf.below (Nat.le_refl _)⟩

set_option maxRecDepth 100000 in
theorem lifted (os : Os) (started : os.Started) (H : Type) (enc : TypeId × Value → H) :
    ReturnsInHanded {} Try.checked os 7 .any (Rows.feedWritesSpec.pre6 enc Try.prog Try.f7 Rows.feedWritesRow.domain false) (Rows.feedWritesSpec.post enc Try.prog Try.f7 false true false false) := by
  refine returnsInHanded_of_change (C := Try.checked) own started (by kernel_rfl) Try.func7
    (ChangeSpec.witness6 (enc := enc) (C := Try.checked) false ⟨#[], #[.int .i64 0, .int .i64 0, .slice none 0 0], []⟩ 8 (by kernel_rfl) (by kernel_rfl) (by kernel_rfl) (by kernel_rfl)) ?_
  intro W base args ds gs before hval0 hW hcnd _
  have hval : ∀ (j : Nat) t v, Try.f7.params[j]? = some t → args[j]? = some v → Value.okWide Try.prog W .any base t v := hval0
  have hW' := hW
  obtain ⟨p, q, hA0, hV, rfl, hfz, hnd⟩ := hW
  have hA : DataW.TrodAll enc Try.prog W 0 (fun _ => true) true Try.f7.params.toList args.toList ds p := hA0
  rw [Try.params7] at hA hval
  obtain ⟨v0, vs0, d0, ds0, p0, q0, hargs, rfl, rfl, h0, r0⟩ := trodAll_cons hA
  obtain ⟨v1, vs1, d1, ds1, p1, q1, rfl, rfl, rfl, h1, r1⟩ := trodAll_cons r0
  obtain ⟨v2, vs2, d2, ds2, p2, q2, rfl, rfl, rfl, h2, r2⟩ := trodAll_cons r1
  obtain ⟨rfl, rfl, rfl⟩ := trodAll_nil r2
  obtain rfl : args = #[v0, v1, v2] := by cases args; simp_all
  obtain ⟨rfl, rfl⟩ := trodVars_none hV
  obtain ⟨a0, rfl, rfl, rfl, w0⟩ := open_int Try.underlying3 (hval 0 3 v0 rfl rfl) h0
  obtain ⟨a1, rfl, rfl, rfl, w1⟩ := open_int Try.underlying3 (hval 1 3 v1 rfl rfl) h1
  obtain ⟨a2, len2, cap2, rfl⟩ := okWide_slice Try.underlying48 (hval 2 48 v2 rfl rfl)
  have k2 := h2
  have lt2 : ∀ x ∈ p2, x.block < W.heap.size := by obtain ⟨m, hm⟩ := k2; exact DataW.trod_lt m _ _ _ hm
  obtain ⟨l2, hl2, m2, w2, g2⟩ : ∃ l : List FAct, l.length = len2 ∧ len2 ≤ maxLen ∧ Rd W 3 (.slice a2 len2 cap2) len2 (l.flatMap FAct.enc) ∧ ∀ y ∈ l, ∀ u ∈ FAct.enc y, Good u := by
    obtain ⟨fuel, hf⟩ := h2
    exact rd_of_trod FAct.enc 3 (fun _ => rfl) (by decide) cells56 Try.underlying48 (dec_56) hf
  subst hl2
  clear hA0 hval0
  refine (walk W a0 w0 a1 w1 a2 cap2 l2 m2 w2 g2).mono fun e W' ⟨he, bel⟩ => ?_
  subst he
  exact ⟨_, rfl, _, _, _, [], _, [], hW', trodAll_mk1 (shut_bool Try.underlying4 _), (trodAll_cons_mk (shut_int Try.underlying3 w0) (trodAll_cons_mk (shut_int Try.underlying3 w1) (trodAll_cons_mk (Below.trod laidOut (by kernel_rfl) (of_decide_eq_true (by kernel_rfl)) k2 bel lt2) trodAll_mk0))), rfl, bel.frame _, fun h => by cases h⟩

theorem over : Rows.feedWritesRow.holds Try.pinned (OpenSpec.ofChange Rows.feedWritesSpec) :=
  OpenClaim.holds_of_wide 7 Try.f7 rfl rfl rfl rfl rfl rfl rfl ⟨rfl, rfl, rfl, rfl, rfl⟩ rfl rfl rfl rfl rfl (by kernel_rfl) Try.func7 (by kernel_rfl)
    (of_decide_eq_true (by kernel_rfl)) (by unfold Func.isWrapper; first | (rw [if_pos (by decide +kernel)]; kernel_rfl) | (rw [if_neg (by decide +kernel)]; exact ⟨rfl, rfl⟩))
    (fun os started H enc _ => lifted os started H enc)

theorem proved : Rows.FeedWritesSaid := over
#print axioms proved
end Go.Proofs.Ytapfkpkomdmibaa.feedWrites
