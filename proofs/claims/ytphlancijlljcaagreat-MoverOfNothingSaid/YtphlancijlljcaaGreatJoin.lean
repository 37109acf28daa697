/- strings.Join; a row of keys as a text; State of arc and twoq. -/
import Derived.Test.YtphlancijlljcaaGreatShelf
import Derived.Test.YtphlancijlljcaaGreatGE
set_option linter.unusedVariables false
set_option linter.unusedSimpArgs false
namespace Go.Proofs.YtphlancijlljcaaGreat
open Go.RowKit
attribute [local go_sem ↓] Go.wp_at_zero Go.wp_at_succ
def joinB (l : List ByteArray) (sep : ByteArray) : ByteArray := ⟨(Lib.join (l.map (·.data.toList)) sep.data.toList).toArray⟩
/-- Keys whose lengths are bounded. -/
def Short (N : Nat) (l : List ByteArray) : Prop := ∀ k, k ∈ l → k.size ≤ N
theorem lens_le {N : Nat} : ∀ {l : List ByteArray}, Short N l → Lib.lens (l.map (·.data.toList)) ≤ N * l.length
 | [], _ => by simp [Lib.lens]
 | x :: r, h => by
  have h1 := lens_le (l := r) fun k hk => h k (by simp [hk])
  have h2 := h x (by simp)
  rw [Lib.size_eq] at h2
  simp only [Lib.lens, List.map_cons, List.sum_cons, List.length_cons, Nat.mul_succ] at h1 ⊢
  omega
theorem join_le {N : Nat} {l : List ByteArray} (h : Short N l) {sep : ByteArray} (hs : sep.size = 1) : (Lib.join (l.map (·.data.toList)) sep.data.toList).length ≤ N * l.length + l.length := by
 cases l with
 | nil => simp [Lib.join]
 | cons x r =>
  have h1 := lens_le h
  rw [List.map_cons] at h1 ⊢
  rw [Lib.join_length, List.length_map, ← Lib.size_eq, hs]
  simp only [List.length_cons] at h1 ⊢
  omega
theorem sjoin {w : World} {v : Value} {l : List ByteArray} {N : Nat} (h : SS w v l) (hl : N * l.length + l.length ≤ 140737488355328) (hs : Short N l) (sep : ByteArray) (hp : sep.size = 1) :
  Calls Tryz.prog 309 #[v, .string sep] w fun en w' => en = .returned (.string (joinB l sep)) ∧ Fr [] w w' := by
 have hlen := Nat.le_trans (join_le hs hp) hl
 by_cases h0 : l = []
 ·subst h0
  obtain ⟨a, c, rfl⟩ := h.form
  refine (Tryz.strings_Join_none a c sep w).mono ?_
  rintro en w' ⟨rfl, rfl⟩
  exact ⟨rfl, Fr.refl _ _⟩
 ·have hpos : 0 < l.length := List.length_pos_iff.2 h0
  have hh := h
  rcases hh.2 with ⟨_, hz⟩ | ⟨g, off, cap, cur, rfl, hg, hc, _⟩
  ·omega
  ·refine (Tryz.strings_Join g off cap l sep w (fun j x hx => Sl.cell h (by simp [hx])) (lt_of_block hg) (by omega) hc hlen).mono ?_
   rintro en w' ⟨rfl, hb⟩
   exact ⟨rfl, Fr.ofBelow hb⟩
theorem join_size {N : Nat} {l : List ByteArray} (h : Short N l) {sep : ByteArray} (hs : sep.size = 1) : (joinB l sep).size ≤ N * l.length + l.length := by
 rw [Lib.size_eq]; exact join_le h hs
theorem Short.cons {N : Nat} {l : List ByteArray} {k : ByteArray} (hk : k.size ≤ N) (h : Short N l) : Short N (k :: l) := fun x hx => by
 rcases List.mem_cons.1 hx with rfl | e
 ·exact hk
 ·exact h x e
theorem Short.nil {N : Nat} : Short N [] := fun x hx => by cases hx
/-- A row of keys as a text. -/
def textB (name : ByteArray) (l : List ByteArray) : ByteArray := name ++ ⟨#[58]⟩ ++ joinB (⟨#[]⟩ :: l) ⟨#[32]⟩
theorem text_size {name : ByteArray} (hn : name.size ≤ 100) {l : List ByteArray} (h : Short 10000 l) (hl : l.length ≤ 5000) : (textB name l).size ≤ 100000000 := by
 have := join_size (sep := ⟨#[32]⟩) (h.cons (k := ⟨#[]⟩) (by decide)) rfl
 simp only [List.length_cons] at this
 unfold textB
 rw [ByteArray.size_append, ByteArray.size_append]
 have e : (⟨#[58]⟩ : ByteArray).size = 1 := rfl
 omega
set_option maxRecDepth 100000 in
theorem textA {w : World} {v : Value} {l : List ByteArray} (h : SS w v l) (hl : l.length ≤ 5000) (hs : Short 10000 l) (name : ByteArray) (hnm : name.size ≤ 100) :
  Calls Tryz.prog 310 #[.string name, v] w fun en w' => en = .returned (.string (textB name l)) ∧ Fr [] w w' := by
 have H := Lib.hid h
 have HJ := Lib.hid fun W b n c (h : SS W (.slice b n c) (⟨#[]⟩ :: l)) => sjoin h (by simp only [List.length_cons]; omega) (hs.cons (k := ⟨#[]⟩) (by decide)) ⟨#[32]⟩ rfl
 have hv := h.form
 obtain ⟨a, c, hv⟩ := hv
 obtain ⟨n, hn⟩ : ∃ n, l.length = n := ⟨_, rfl⟩
 rw [hn] at hv
 have HV := Lib.hid hv
 have hJs : (joinB (⟨#[]⟩ :: l) ⟨#[32]⟩).size ≤ 140737488355328 := by have h2 := join_size (sep := ⟨#[32]⟩) (hs.cons (k := ⟨#[]⟩) (by decide)) rfl; simp only [List.length_cons] at h2; omega
 unfold textB
 obtain ⟨J, hJ⟩ : ∃ j, joinB (⟨#[]⟩ :: l) ⟨#[32]⟩ = j := ⟨_, rfl⟩
 rw [hJ] at HJ hJs ⊢
 have q1 : ¬ 9223372036854775807 < name.size + 1 := by omega
 have q2 : ¬ 9223372036854775807 < name.size + 1 + J.size := by omega
 subst hv
 clear h hs hJ hn
 go_enter Tryz.func310, Tryz.ntmps310
 go_wp2_with (at_builtin; refine app_list rfl _ _ rfl (.slice (some ⟨w.heap.size, 0, none⟩) 1 1) (.slice a n c) [⟨#[]⟩] l rfl rfl ?hsl ?src ?hb ?_)
 case hsl => exact SS.one w ⟨#[]⟩
 case src => exact SS.src (H.out.fr ((Fr.refl [] w).alloc _) (fun _ _ => by simp))
 case hb => show 1 + l.length ≤ 1000000; omega
 intro b' n' c' w2 hn' happ
 have hf : Fr [] w w2 := (Fr.refl [] w).alloc _ |>.fresh happ.2.1 (by intro q hq; simp [Value.ownBlock] at hq; omega)
 have HAP := Lib.hid (And.intro happ.1 hf)
 clear happ hf hn'
 go_wp2_with fail
 refine (HJ.out _ _ _ _ HAP.out.1).mono ?_
 rintro en w3 ⟨rfl, f3⟩
 have F3 := HAP.out.2.same f3
 clear f3
 go_wp2
 go_ret
 exact ⟨rfl, F3⟩
set_option maxRecDepth 100000 in
theorem textQ {w : World} {v : Value} {l : List ByteArray} (h : SS w v l) (hl : l.length ≤ 5000) (hs : Short 10000 l) (name : ByteArray) (hnm : name.size ≤ 100) :
  Calls Tryz.prog 384 #[.string name, v] w fun en w' => en = .returned (.string (textB name l)) ∧ Fr [] w w' := by
 have H := Lib.hid h
 have HJ := Lib.hid fun W b n c (h : SS W (.slice b n c) (⟨#[]⟩ :: l)) => sjoin h (by simp only [List.length_cons]; omega) (hs.cons (k := ⟨#[]⟩) (by decide)) ⟨#[32]⟩ rfl
 have hv := h.form
 obtain ⟨a, c, hv⟩ := hv
 obtain ⟨n, hn⟩ : ∃ n, l.length = n := ⟨_, rfl⟩
 rw [hn] at hv
 have HV := Lib.hid hv
 have hJs : (joinB (⟨#[]⟩ :: l) ⟨#[32]⟩).size ≤ 140737488355328 := by have h2 := join_size (sep := ⟨#[32]⟩) (hs.cons (k := ⟨#[]⟩) (by decide)) rfl; simp only [List.length_cons] at h2; omega
 unfold textB
 obtain ⟨J, hJ⟩ : ∃ j, joinB (⟨#[]⟩ :: l) ⟨#[32]⟩ = j := ⟨_, rfl⟩
 rw [hJ] at HJ hJs ⊢
 have q1 : ¬ 9223372036854775807 < name.size + 1 := by omega
 have q2 : ¬ 9223372036854775807 < name.size + 1 + J.size := by omega
 subst hv
 clear h hs hJ hn
 go_enter Tryz.func384, Tryz.ntmps384
 go_wp2_with (at_builtin; refine app_list rfl _ _ rfl (.slice (some ⟨w.heap.size, 0, none⟩) 1 1) (.slice a n c) [⟨#[]⟩] l rfl rfl ?hsl ?src ?hb ?_)
 case hsl => exact SS.one w ⟨#[]⟩
 case src => exact SS.src (H.out.fr ((Fr.refl [] w).alloc _) (fun _ _ => by simp))
 case hb => show 1 + l.length ≤ 1000000; omega
 intro b' n' c' w2 hn' happ
 have hf : Fr [] w w2 := (Fr.refl [] w).alloc _ |>.fresh happ.2.1 (by intro q hq; simp [Value.ownBlock] at hq; omega)
 have HAP := Lib.hid (And.intro happ.1 hf)
 clear happ hf hn'
 go_wp2_with fail
 refine (HJ.out _ _ _ _ HAP.out.1).mono ?_
 rintro en w3 ⟨rfl, f3⟩
 have F3 := HAP.out.2.same f3
 clear f3
 go_wp2
 go_ret
 exact ⟨rfl, F3⟩
end Go.Proofs.YtphlancijlljcaaGreat
