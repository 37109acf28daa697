/- hoardlaw23: a nil mover; known; MoverOfNothing. -/
import Derived.Test.YtphlancijlljcaaGreatGD
set_option linter.unusedVariables false
set_option linter.unusedSimpArgs false
namespace Go.Proofs.YtphlancijlljcaaGreat
open Go.RowKit
attribute [local go_sem ↓] Go.wp_at_zero Go.wp_at_succ
theorem mMoving_nil (w : World) : Calls Tryz.prog 59 #[.pointer none] w fun en w' => en = .returned (.bool false) ∧ w = w' := by
 go_enter Tryz.func59, Tryz.ntmps59
 go_wp2
 go_ret
 exact ⟨rfl, rfl⟩
theorem mLen_nil (w : World) : Calls Tryz.prog 56 #[.pointer none] w fun en w' => en = .returned (.int .i64 0) ∧ w = w' := by
 go_enter Tryz.func56, Tryz.ntmps56
 go_wp2
 go_ret
 exact ⟨rfl, rfl⟩
theorem mKeys_nil (w : World) : Calls Tryz.prog 53 #[.pointer none] w fun en w' => en = .returned (.slice none 0 0) ∧ w = w' := by
 go_enter Tryz.func53, Tryz.ntmps53
 go_wp2
 go_ret
 exact ⟨rfl, rfl⟩
theorem mKind_nil (w : World) : Calls Tryz.prog 67 #[.pointer none] w fun en w' => en = .returned (.int .i64 (-1)) ∧ w = w' := by
 go_enter Tryz.func67, Tryz.ntmps67
 go_wp2
 go_ret
 exact ⟨rfl, rfl⟩
theorem mRoom_nil (w : World) : Calls Tryz.prog 64 #[.pointer none] w fun en w' => en = .returned (.int .i64 0) ∧ w = w' := by
 go_enter Tryz.func64, Tryz.ntmps64
 go_wp2
 go_ret
 exact ⟨rfl, rfl⟩
theorem mState_nil (w : World) : Calls Tryz.prog 73 #[.pointer none] w fun en w' => en = .returned (.string ⟨#[]⟩) ∧ w = w' := by
 go_enter Tryz.func73, Tryz.ntmps73
 go_wp2
 go_ret
 exact ⟨rfl, rfl⟩
theorem mLeft_nil (w : World) : Calls Tryz.prog 65 #[.pointer none] w fun en w' => en = .returned (.int .i64 0) ∧ w = w' := by
 go_enter Tryz.func65, Tryz.ntmps65
 go_wp2_with fail
 refine (mMoving_nil _).mono ?_
 rintro en w' ⟨rfl, rfl⟩
 go_wp2
 go_ret
 exact ⟨rfl, rfl⟩
theorem mFinish_nil (w : World) : Calls Tryz.prog 58 #[.pointer none] w fun en w' => en = .returned (.int .i64 0) ∧ w = w' := by
 go_enter Tryz.func58, Tryz.ntmps58
 go_wp2_with fail
 go_loopw [3] (fun u3 wr => u3 = .int .i64 0 ∧ wr = w) (fun _ _ => 0)
 case atStart => exact ⟨rfl, rfl⟩
 case round =>
  obtain ⟨rfl, rfl⟩ := hrel
  go_wp2_with fail
  refine (mMoving_nil _).mono ?_
  rintro en w' ⟨rfl, rfl⟩
  go_wp2
  go_ret
  exact ⟨rfl, rfl⟩
theorem mStep_nil (w : World) : Calls Tryz.prog 57 #[.pointer none] w fun en w' => en = .returned (.tuple #[.string ⟨#[]⟩, .bool false]) ∧ w = w' := by
 go_enter Tryz.func57, Tryz.ntmps57
 go_wp2_with fail
 refine (mMoving_nil _).mono ?_
 rintro en w' ⟨rfl, rfl⟩
 go_wp2
 go_ret2
 exact ⟨rfl, rfl⟩
theorem mEvict_nil (w : World) : Calls Tryz.prog 68 #[.pointer none] w fun en w' => en = .returned (.tuple #[.string ⟨#[]⟩, .bool false]) ∧ w = w' := by
 go_enter Tryz.func68, Tryz.ntmps68
 go_wp2
 go_ret2
 exact ⟨rfl, rfl⟩
theorem mInsert_nil (w : World) (key : ByteArray) : Calls Tryz.prog 70 #[.pointer none, .string key] w fun en w' => en = .returned (.slice none 0 0) ∧ w = w' := by
 go_enter Tryz.func70, Tryz.ntmps70
 go_wp2
 go_ret
 exact ⟨rfl, rfl⟩
theorem mHas_nil (w : World) (key : ByteArray) : Calls Tryz.prog 72 #[.pointer none, .string key] w fun en w' => en = .returned (.bool false) ∧ w = w' := by
 go_enter Tryz.func72, Tryz.ntmps72
 go_wp2
 go_ret
 exact ⟨rfl, rfl⟩
theorem mBegin_nil (w : World) (n : Int) : Calls Tryz.prog 54 #[.pointer none, .int .i64 n] w fun en w' => en = .returned (.int .i64 1) ∧ w = w' := by
 go_enter Tryz.func54, Tryz.ntmps54
 go_wp2
 go_ret
 exact ⟨rfl, rfl⟩
theorem mResize_nil (w : World) (n : Int) : Calls Tryz.prog 71 #[.pointer none, .int .i64 n] w fun en w' => en = .returned (.slice none 0 0) ∧ w = w' := by
 go_enter Tryz.func71, Tryz.ntmps71
 go_wp2
 go_ret
 exact ⟨rfl, rfl⟩
theorem mApply_nil (w : World) (n : Int) (key : ByteArray) : Calls Tryz.prog 69 #[.pointer none, .agg #[.int .i64 n, .string key]] w fun en w' => en = .returned (.slice none 0 0) ∧ Fr [] w w' := by
 go_enter Tryz.func69, Tryz.ntmps69
 go_wp2
 go_ret
 exact ⟨rfl, (Fr.refl [] w).alloc _⟩
def kM : ByteArray := ⟨#[97]⟩
def kqA : En := ((En.new 2 2).access kM).2.2
def kaA : En := (En.new 0 2).load kM |>.2
theorem kq_cap : (En.new 2 2).cap = 2 := by kernel_rfl
theorem kq_has : (En.new 2 2).has kM = false := by kernel_rfl
theorem kq_len : (En.new 2 2).len = 0 := by kernel_rfl
theorem kq_keys : kqA.keys = [kM] := by kernel_rfl
theorem kq_gone : (kqA.remove kM).2.keys = [] := by kernel_rfl
theorem dec0 : Lib.decDigits 0 = [48] := by rw [Lib.decDigits]; rfl
theorem kt_q : kqA.text = some ⟨#[65, 49, 105, 110, 58, 32, 97, 59, 65, 49, 111, 117, 116, 58, 59, 65, 109, 58]⟩ := by kernel_rfl
theorem itB0 : itB 0 = ⟨#[48]⟩ := by unfold itB; rw [dec0]
theorem kt_a : (En.new 0 2).text = some ⟨#[84, 49, 58, 59, 84, 50, 58, 59, 66, 49, 58, 59, 66, 50, 58, 59, 112, 58, 32, 48]⟩ := by
 have : (En.new 0 2).text = some (joinB [textB ⟨#[84, 49]⟩ [], textB ⟨#[84, 50]⟩ [], textB ⟨#[66, 49]⟩ [], textB ⟨#[66, 50]⟩ [], ⟨#[112, 58, 32]⟩ ++ itB 0] ⟨#[59]⟩) := rfl
 rw [this, itB0]
 show _ = _
 kernel_rfl
theorem kt_b : kaA.text = some ⟨#[84, 49, 58, 32, 97, 59, 84, 50, 58, 59, 66, 49, 58, 59, 66, 50, 58, 59, 112, 58, 32, 48]⟩ := by
 have : kaA.text = some (joinB [textB ⟨#[84, 49]⟩ [kM], textB ⟨#[84, 50]⟩ [], textB ⟨#[66, 49]⟩ [], textB ⟨#[66, 50]⟩ [], ⟨#[112, 58, 32]⟩ ++ itB 0] ⟨#[59]⟩) := by rfl
 rw [this, itB0]
 show _ = _
 kernel_rfl
def kK : Rows := pushK (fun _ => []) 0 kM
theorem kK_short (i : Nat) : Short 10000 (kK i) := fun k hk => by
 have : k = kM := by
  unfold kK pushK up dropK at hk
  by_cases h : i = 0
  ·simpa [h] using hk
  ·simp [h] at hk
 rw [this]
 decide
theorem nil_short : Short 10000 ([] : List ByteArray) := Short.nil
theorem kqK : kqA = .Q { (Twoq.new 2) with K := kK } := by kernel_rfl
theorem short_trim {N r n : Nat} {K : Rows} (h : ∀ i, Short N (K i)) (i : Nat) : Short N (trim K r n i) := fun k hk => by
 unfold trim up at hk
 by_cases e : i = r
 ·simp only [e, if_true] at hk
  exact h r k (List.mem_of_mem_drop hk)
 ·simp only [e, if_false] at hk
  exact h i k hk
theorem kaK : ∃ x, kaA = .A x ∧ x.K = arcTrim3 2 (arcTrim2 2 kK) := ⟨_, rfl, by kernel_rfl⟩
theorem tame_q : kqA.Tame := by rw [kqK]; exact kK_short
theorem tame_b : kaA.Tame := by
 obtain ⟨x, h, hk⟩ := kaK
 rw [h]
 show ∀ i, Short 10000 (x.K i)
 rw [hk]
 exact short_trim (short_trim kK_short)
theorem tame_a : (En.new 0 2).Tame := fun _ => Short.nil
def MvOk (w : World) (en : Ending) (w' : World) : Prop := en = .returned (.bool true) ∧ Fr [] w w'
/-- A mover that is new since w. -/
def MNA (w : World) (m r : Nat) (s : En) (w' : World) : Prop := ∃ F, MvA w' m F r s ∧ Ge w.heap.size (m :: F) ∧ Fr [] w w'
def MNB (w : World) (m r : Nat) (s x : En) (w' : World) : Prop := ∃ F G, MvB w' m F G r s x ∧ Ge w.heap.size (m :: (F ++ G)) ∧ Fr [] w w'
section
variable {w w1 : World} {m r : Nat} {s x : En}
theorem MNA.insert (h : MNA w m r s w1) (key : ByteArray) (hz : key.size ≤ maxLen) (hh : s.has key = false) (hl : s.len ≤ 50000) : Calls Tryz.prog 70 #[ptr m, .string key] w1 fun en w' => (∃ v, en = .returned v) ∧ MNA w m r (s.access key).2.2 w' := by
 obtain ⟨F, h1, h2, h3⟩ := h
 refine (minsertA h1 key hz hh hl).mono ?_
 rintro en w2 ⟨v, rfl, _, F', a, b, c⟩
 have hF : Ge w.heap.size F := fun b hb => h2 b (by simp [hb])
 refine ⟨⟨v, rfl⟩, F', a, fun b' hb => ?_, h3.fresh c hF⟩
 rcases List.mem_cons.1 hb with rfl | hb
 ·exact h2 _ (by simp)
 ·exact b.ge hF h3.size _ hb
theorem MNA.begin (h : MNA w m r s w1) (k : Nat) (hk : k < 5) (hr : r ≤ 100000) : Calls Tryz.prog 54 #[ptr m, .int .i64 k] w1 fun en w' => en = .returned (.int .i64 0) ∧ MNB w m r (En.new k r) s w' := by
 obtain ⟨F, h1, h2, h3⟩ := h
 refine (mbeginA h1 k hk hr).mono ?_
 rintro en w2 ⟨rfl, F', a, b, c⟩
 refine ⟨rfl, F', F, a, fun b' hb => ?_, h3.fresh c (fun b hb => h2 b (by simp at hb; simp [hb]))⟩
 rcases List.mem_cons.1 hb with rfl | hb
 ·exact h2 _ (by simp)
 ·rcases List.mem_append.1 hb with hb | hb
  ·exact Nat.le_trans h3.size (b b' hb)
  ·exact h2 _ (by simp [hb])
theorem MNB.step {key : ByteArray} {l : List ByteArray} (h : MNB w m r s x w1) (hx : x.keys = key :: l) (hz : key.size ≤ maxLen) (hb : l.length ≤ 50000) :
  Calls Tryz.prog 57 #[ptr m] w1 fun en w' => en = .returned (.tuple #[.string key, .bool true]) ∧ MNB w m r (s.load key).2 (x.remove key).2 w' := by
 obtain ⟨F, G, h1, h2, h3⟩ := h
 refine (mstepB h1 hx hz hb).mono ?_
 rintro en w2 ⟨rfl, F', G', a, b, c, d⟩
 have hF : Ge w.heap.size F := fun b hb => h2 b (by simp [hb])
 have hG : Ge w.heap.size G := fun b hb => h2 b (by simp [hb])
 refine ⟨rfl, F', G', a, fun b' hb => ?_, h3.fresh d (fun b hb => h2 b (by simp at hb ⊢; exact .inr hb))⟩
 rcases List.mem_cons.1 hb with rfl | hb
 ·exact h2 _ (by simp)
 ·rcases List.mem_append.1 hb with hb | hb
  ·exact b.ge hF h3.size _ hb
  ·exact c.ge hG h3.size _ hb
theorem MNB.stepEnd (h : MNB w m r s x w1) (hx : x.keys = []) : Calls Tryz.prog 57 #[ptr m] w1 fun en w' => en = .returned (.tuple #[.string ⟨#[]⟩, .bool false]) ∧ MNA w m r s w' := by
 obtain ⟨F, G, h1, h2, h3⟩ := h
 refine (mstepEnd h1 hx).mono ?_
 rintro en w2 ⟨rfl, a, d⟩
 exact ⟨rfl, F, a, fun b hb => h2 b (by simp at hb ⊢; rcases hb with hb | hb; exact .inl hb; exact .inr (.inl hb)), h3.fresh d (fun b hb => h2 b (by simp at hb; simp [hb]))⟩
theorem MNA.state (h : MNA w m r s w1) (ht : s.Tame) {t : ByteArray} (hs : s.text = some t) : Calls Tryz.prog 73 #[ptr m] w1 fun en w' => en = .returned (.string t) ∧ MNA w m r s w' := by
 obtain ⟨F, h1, h2, h3⟩ := h
 refine (mstateA h1 ht hs).mono ?_
 rintro en w2 ⟨rfl, f⟩
 exact ⟨rfl, F, h1.fr0 f, h2, h3.same f⟩
theorem MNB.state (h : MNB w m r s x w1) (ht : s.Tame) (ht2 : x.Tame) {t t2 : ByteArray} (hs : s.text = some t) (hs2 : x.text = some t2) (hz : t.size ≤ 1000000000000) (hz2 : t2.size ≤ 1000000000000) :
  Calls Tryz.prog 73 #[ptr m] w1 fun en w' => en = .returned (.string (t2 ++ ⟨#[32, 62, 32]⟩ ++ t)) ∧ MNB w m r s x w' := by
 obtain ⟨F, G, h1, h2, h3⟩ := h
 refine (mstateB h1 ht ht2 hs hs2 hz hz2).mono ?_
 rintro en w2 ⟨rfl, f⟩
 exact ⟨rfl, F, G, h1.fr0 f, h2, h3.same f⟩
end
theorem kt_s : (⟨#[65, 49, 105, 110, 58, 32, 97, 59, 65, 49, 111, 117, 116, 58, 59, 65, 109, 58]⟩ ++ ⟨#[32, 62, 32]⟩ ++ ⟨#[84, 49, 58, 59, 84, 50, 58, 59, 66, 49, 58, 59, 66, 50, 58, 59, 112, 58, 32, 48]⟩ : ByteArray) = ⟨#[65, 49, 105, 110, 58, 32, 97, 59, 65, 49, 111, 117, 116, 58, 59, 65, 109, 58, 32, 62, 32, 84, 49, 58, 59, 84, 50, 58, 59, 66, 49, 58, 59, 66, 50, 58, 59, 112, 58, 32, 48]⟩ := by kernel_rfl
set_option maxRecDepth 100000 in
theorem known23 (w : World) : Calls Tryz.prog 60 #[] w (MvOk w) := by
 have HN : Hid (∀ W, Calls Tryz.prog 61 #[.int .i64 2, .int .i64 2] W (MvNew W (En.new 2 2))) := fun W => mnew W 2 (by decide) 2 (by decide) (by decide)
 go_enter Tryz.func60, Tryz.ntmps60
 go_wp2_with fail
 refine (HN.out _).mono ?_
 rintro en w1 ⟨m, F, rfl, hp, hg, hf⟩
 rw [kq_cap] at hp
 have H1 : Hid (MNA w m 2 (En.new 2 2) w1) := ⟨F, hp, hg, hf⟩
 clear hp hg hf
 go_wp2_with fail
 refine (H1.out.insert kM (by decide) kq_has (by rw [kq_len]; decide)).mono ?_
 rintro en w2 ⟨⟨v, rfl⟩, h2⟩
 have H2 : Hid (MNA w m 2 kqA w2) := h2
 clear h2
 go_wp2_with fail
 refine (H2.out.begin 0 (by decide) (by decide)).mono ?_
 rintro en w3 ⟨rfl, h3⟩
 have H3 : Hid (MNB w m 2 (En.new 0 2) kqA w3) := h3
 clear h3
 go_wp2_with fail
 refine (H3.out.state tame_a tame_q kt_a kt_q (by decide) (by decide)).mono ?_
 rintro en w4 ⟨rfl, h4⟩
 rw [kt_s]
 have H4 := Lib.hid h4
 clear h4
 go_wp2_with fail
 refine (H4.out.step kq_keys (by decide) (by decide)).mono ?_
 rintro en w5 ⟨rfl, h5⟩
 rw [show kM = ⟨#[97]⟩ from rfl]
 have H5 : Hid (MNB w m 2 kaA (kqA.remove kM).2 w5) := h5
 clear h5
 go_wp2_with fail
 refine (H5.out.stepEnd kq_gone).mono ?_
 rintro en w6 ⟨rfl, h6⟩
 have H6 := Lib.hid h6
 clear h6
 go_wp2_with fail
 refine (H6.out.state tame_b kt_b).mono ?_
 rintro en w7 ⟨rfl, F7, _, _, hf7⟩
 have HF := Lib.hid hf7
 clear hf7
 go_wp2
 go_ret
 exact ⟨by simp, HF.out⟩
set_option maxRecDepth 100000 in
set_option maxHeartbeats 1000000 in
theorem moverOfNothing (key : ByteArray) (hk : key.size ≤ maxLen) (n : Int) (w : World) : Calls Tryz.prog 14 #[.string key, .int .i64 n] w (MvOk w) := by
 by_cases hs : 40 < key.size
 ·go_enter Tryz.func14, Tryz.ntmps14
  go_wp2
  go_ret
  exact ⟨rfl, Fr.refl _ _⟩
 go_enter Tryz.func14, Tryz.ntmps14
 go_wp2_with fail
 refine (mEvict_nil _).mono ?_
 rintro en w' ⟨rfl, rfl⟩
 go_wp2_with fail
 refine (mStep_nil _).mono ?_
 rintro en w' ⟨rfl, rfl⟩
 go_wp2_with fail
 refine (mApply_nil _ _ _).mono ?_
 rintro en w1 ⟨rfl, hf1⟩
 have HF1 := Lib.hid hf1
 clear hf1
 go_wp2_with fail
 refine (mInsert_nil _ _).mono ?_
 rintro en w' ⟨rfl, rfl⟩
 go_wp2_with fail
 refine (mBegin_nil _ _).mono ?_
 rintro en w' ⟨rfl, rfl⟩
 go_wp2_with fail
 refine (mFinish_nil _).mono ?_
 rintro en w' ⟨rfl, rfl⟩
 go_wp2_with fail
 refine (mResize_nil _ _).mono ?_
 rintro en w' ⟨rfl, rfl⟩
 go_wp2_with fail
 refine (mHas_nil _ _).mono ?_
 rintro en w' ⟨rfl, rfl⟩
 go_wp2_with fail
 refine (mKeys_nil _).mono ?_
 rintro en w' ⟨rfl, rfl⟩
 go_wp2_with fail
 refine (mLen_nil _).mono ?_
 rintro en w' ⟨rfl, rfl⟩
 go_wp2_with fail
 refine (mLeft_nil _).mono ?_
 rintro en w' ⟨rfl, rfl⟩
 go_wp2_with fail
 refine (mMoving_nil _).mono ?_
 rintro en w' ⟨rfl, rfl⟩
 go_wp2_with fail
 refine (mKind_nil _).mono ?_
 rintro en w' ⟨rfl, rfl⟩
 go_wp2_with fail
 refine (mRoom_nil _).mono ?_
 rintro en w' ⟨rfl, rfl⟩
 go_wp2_with fail
 refine (mState_nil _).mono ?_
 rintro en w' ⟨rfl, rfl⟩
 go_wp2_with fail
 refine (known23 _).mono ?_
 rintro en w2 ⟨rfl, hf2⟩
 have HF2 := Lib.hid (HF1.out.same hf2)
 clear hf2
 go_wp2
 go_ret
 exact ⟨by simp, HF2.out⟩
end Go.Proofs.YtphlancijlljcaaGreat
