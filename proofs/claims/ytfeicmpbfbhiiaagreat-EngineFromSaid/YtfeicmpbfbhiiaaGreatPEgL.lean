/- The law EngineFrom returns true for every input that its row reads, and writes nothing that was there. No further condition. -/
/- The frame: printed by my frame.py off the guide's own print for this function. -/
import Derived.Test.YtfeicmpbfbhiiaaGreatRows
import Derived.WalkKit
import Derived.Test.YtfeicmpbfbhiiaaGreatPEg01
import Derived.Test.YtfeicmpbfbhiiaaGreatPEg42
import Derived.ProofKit
import Derived.OpenShut
import Derived.ShutString
import Derived.ChangeOld
import Derived.Below
import Derived.Carry
namespace Go.Proofs.YtfeicmpbfbhiiaaGreat.engineFrom
open Go.ChangeShapes Go.WideShapes Go.ChangeAt Go.RowKit
open Go.ChangeMaps (open_string shut_string)
set_option linter.unusedVariables false

theorem own : ownKnob Tryz.prog.godebug = none := by kernel_rfl
theorem laidOut : laidOutB Tryz.prog = true := by kernel_rfl
theorem cells9 : Tryz.prog.cellsOf 9 = 1 := by kernel_rfl

theorem walk (w : World) (a0 : Int) (w0 : (Lit.int .i64 a0).wf = true) (a1 : Int) (w1 : (Lit.int .i64 a1).wf = true) (a2 : Option Addr) (cap2 : Nat) (l2 : List ByteArray) (m2 : l2.length ≤ maxLen) (w2 : Rd w 1 (.slice a2 l2.length cap2) l2.length (l2.flatMap (fun z : ByteArray => [Value.string z]))) (g2 : ∀ y ∈ l2, ∀ u ∈ (fun z : ByteArray => [Value.string z]) y, Good u) :
    Calls Tryz.prog 3 #[.int .i64 a0, .int .i64 a1, .slice a2 l2.length cap2] w fun e w' => e = .returned (.bool true) ∧ Below w.heap.size w w' := by
  have hb := bounds_i64 w1
  rw [YtfeicmpbfbhiiaaGreat.flat1] at w2
  exact (YtfeicmpbfbhiiaaGreat.engineFrom a0 a1 hb.1 hb.2 l2 a2 l2.length cap2 rfl w w2 m2).mono fun e w' ⟨he, hf⟩ => ⟨he, hf.below (Nat.le_refl _)⟩

set_option maxRecDepth 100000 in
theorem lifted (os : Os) (started : os.Started) (H : Type) (enc : TypeId × Value → H) :
    ReturnsInHanded {} Tryz.checked os 3 .any (Rows.engineFromSpec.pre6 enc Tryz.prog Tryz.f3 Rows.engineFromRow.domain false) (Rows.engineFromSpec.post enc Tryz.prog Tryz.f3 false true false false) := by
  refine returnsInHanded_of_change (C := Tryz.checked) own started (by kernel_rfl) Tryz.func3
    (ChangeSpec.witness6 (enc := enc) (C := Tryz.checked) false ⟨#[], #[.int .i64 0, .int .i64 0, .slice none 0 0], []⟩ 8 (by kernel_rfl) (by kernel_rfl) (by kernel_rfl) (by kernel_rfl)) ?_
  intro W base args ds gs before hval0 hW hcnd _
  have hval : ∀ (j : Nat) t v, Tryz.f3.params[j]? = some t → args[j]? = some v → Value.okWide Tryz.prog W .any base t v := hval0
  have hW' := hW
  obtain ⟨p, q, hA0, hV, rfl, hfz, hnd⟩ := hW
  have hA : DataW.TrodAll enc Tryz.prog W 0 (fun _ => true) true Tryz.f3.params.toList args.toList ds p := hA0
  rw [Tryz.params3] at hA hval
  obtain ⟨v0, vs0, d0, ds0, p0, q0, hargs, rfl, rfl, h0, r0⟩ := trodAll_cons hA
  obtain ⟨v1, vs1, d1, ds1, p1, q1, rfl, rfl, rfl, h1, r1⟩ := trodAll_cons r0
  obtain ⟨v2, vs2, d2, ds2, p2, q2, rfl, rfl, rfl, h2, r2⟩ := trodAll_cons r1
  obtain ⟨rfl, rfl, rfl⟩ := trodAll_nil r2
  obtain rfl : args = #[v0, v1, v2] := by cases args; simp_all
  obtain ⟨rfl, rfl⟩ := trodVars_none hV
  obtain ⟨a0, rfl, rfl, rfl, w0⟩ := open_int Tryz.underlying3 (hval 0 3 v0 rfl rfl) h0
  obtain ⟨a1, rfl, rfl, rfl, w1⟩ := open_int Tryz.underlying3 (hval 1 3 v1 rfl rfl) h1
  obtain ⟨a2, len2, cap2, rfl⟩ := okWide_slice Tryz.underlying22 (hval 2 22 v2 rfl rfl)
  have k2 := h2
  have lt2 : ∀ x ∈ p2, x.block < W.heap.size := by obtain ⟨m, hm⟩ := k2; exact DataW.trod_lt m _ _ _ hm
  obtain ⟨l2, hl2, m2, w2, g2⟩ : ∃ l : List ByteArray, l.length = len2 ∧ len2 ≤ maxLen ∧ Rd W 1 (.slice a2 len2 cap2) len2 (l.flatMap (fun z : ByteArray => [Value.string z])) ∧ ∀ y ∈ l, ∀ u ∈ (fun z : ByteArray => [Value.string z]) y, Good u := by
    obtain ⟨fuel, hf⟩ := h2
    exact rd_of_trod (fun z : ByteArray => [Value.string z]) 1 (fun _ => rfl) (by decide) cells9 Tryz.underlying22 (dec_str Tryz.underlying9) hf
  subst hl2
  clear hA0 hval0
  refine (walk W a0 w0 a1 w1 a2 cap2 l2 m2 w2 g2).mono fun e W' ⟨he, bel⟩ => ?_
  subst he
  exact ⟨_, rfl, _, _, _, [], _, [], hW', trodAll_mk1 (shut_bool Tryz.underlying4 _), (trodAll_cons_mk (shut_int Tryz.underlying3 w0) (trodAll_cons_mk (shut_int Tryz.underlying3 w1) (trodAll_cons_mk (Below.trod laidOut (by kernel_rfl) (of_decide_eq_true (by kernel_rfl)) k2 bel lt2) trodAll_mk0))), rfl, bel.frame _, fun h => by cases h⟩

theorem and_t {a b : Bool} (ha : a = true) (hb : b = true) : (a && b) = true := by rw [ha, hb]; rfl
theorem named : Tryz.pinned.checked.prog.funcNamed Rows.engineFromRow.func = some 3 := by kernel_rfl
set_option maxHeartbeats 40000000 in
theorem closed : joinedFacts Tryz.pinned.checked.prog 3 Tryz.f3 Rows.engineFromSpec Rows.engineFromRow = true := by
  unfold joinedFacts
  repeat' (with_reducible apply and_t)
  all_goals as_aux_lemma => kernel_rfl
theorem wraps : Tryz.f3.isWrapper Tryz.pinned.checked.prog Rows.engineFromRow.wrapper Rows.engineFromRow.mainSum := by
  unfold Func.isWrapper; first | (rw [if_pos (by decide +kernel)]; kernel_rfl) | (rw [if_neg (by decide +kernel)]; exact ⟨rfl, rfl⟩)
theorem over : Rows.engineFromRow.holds Tryz.pinned (OpenSpec.ofChange Rows.engineFromSpec) :=
  OpenClaim.holds_of_wide 3 Tryz.f3 rfl rfl rfl rfl rfl rfl rfl ⟨rfl, rfl, rfl, rfl, rfl⟩ rfl rfl rfl rfl rfl named Tryz.func3 closed
    (of_decide_eq_true (by kernel_rfl)) wraps
    (fun os started H enc _ => lifted os started H enc)

theorem proved : Rows.EngineFromSaid := over
#print axioms proved
end Go.Proofs.YtfeicmpbfbhiiaaGreat.engineFrom
