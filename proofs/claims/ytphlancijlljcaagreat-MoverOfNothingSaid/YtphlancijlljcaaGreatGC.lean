/- The walks over s3fifo's engine: comes, goes, Has, Len. -/
import Derived.Test.YtphlancijlljcaaGreatGB
import Derived.Test.YtphlancijlljcaaGreatG1
set_option linter.unusedVariables false
set_option linter.unusedSimpArgs false
namespace Go.Proofs.YtphlancijlljcaaGreat
open Go.RowKit
attribute [local go_sem ↓] Go.wp_at_zero Go.wp_at_succ
/-- Three rows, and the index of the counts. -/
def SR (w : World) (e g cap x y c sm gh : Nat) (F : List Nat) (K : Rows) (C : Cnt) : Prop :=
 ∃ (F1 Fy : List Nat) (n : Nat), F = F1 ++ Fy ∧ ERows IRepS 3 225 w e g cap x F1 K [.int .i64 (c : Nat), .int .i64 (sm : Nat), .int .i64 (gh : Nat), .pointer (some ⟨y, 0, none⟩)] ∧ IRepI w y Fy C n ∧ Dis F1 Fy ∧ n ≤ (K 0).length + (K 1).length ∧ CInv K C
section
variable {w w' w1 w2 w0 : World} {e g cap x y c sm gh : Nat} {F F1 G : List Nat} {K : Rows} {C : Cnt}
theorem SR.fr (h : SR w e g cap x y c sm gh F K C) (f : Fr G w w') (hd : Dis F G) : SR w' e g cap x y c sm gh F K C := by
 obtain ⟨F1, Fy, n, rfl, a, b, d, i, j⟩ := h
 exact ⟨F1, Fy, n, rfl, a.fr irokS f (fun q hq => hd q (by simp [hq])), b.fr f (fun q hq => hd q (by simp [hq])), d, i, j⟩
theorem SR.fr0 (h : SR w e g cap x y c sm gh F K C) (f : Fr [] w w') : SR w' e g cap x y c sm gh F K C := h.fr f (fun b _ => by simp)
theorem SR.lt (h : SR w e g cap x y c sm gh F K C) : Lt F w := by
 obtain ⟨F1, Fy, n, rfl, a, b, d, i, j⟩ := h
 intro q hq
 rcases List.mem_append.1 hq with hq | hq
 ·exact a.lt irokS q hq
 ·exact b.lt q hq
theorem SR.ci (h : SR w e g cap x y c sm gh F K C) : CInv K C := by
 obtain ⟨F1, Fy, n, rfl, a, b, d, i, j⟩ := h
 exact j
def SGo (w : World) (e g cap x y c sm gh : Nat) (F : List Nat) (K : Rows) (C : Cnt) (w' : World) : Prop := ∃ F', SR w' e g cap x y c sm gh F' K C ∧ Sub F' F w ∧ Fr F w w'
theorem SGo.refl (h : SR w e g cap x y c sm gh F K C) : SGo w e g cap x y c sm gh F K C w := ⟨F, h, Sub.refl _ _, Fr.refl _ _⟩
theorem SGo.trans (h1 : Sub F1 F w) (h2 : Fr F w w1) (h : SGo w1 e g cap x y c sm gh F1 K C w2) : SGo w e g cap x y c sm gh F K C w2 := by
 obtain ⟨F', a1, a2, a3⟩ := h
 exact ⟨F', a1, h1.fr h2 a2, h2.via h1 a3⟩
theorem SGo.old (h : SGo w e g cap x y c sm gh F K C w1) (f : Fr [] w0 w) : SGo w0 e g cap x y c sm gh F K C w1 := by
 obtain ⟨F', h1, h2, h3⟩ := h
 exact ⟨F', h1, h2.old f.size, f.nil.same h3⟩
theorem SGo.fr (h : SGo w e g cap x y c sm gh F K C w1) (f : Fr [] w1 w2) : SGo w e g cap x y c sm gh F K C w2 := by
 obtain ⟨F', h1, h2, h3⟩ := h
 exact ⟨F', h1.fr0 f, h2, h3.same f.nil⟩
theorem append_sub {A A' B : List Nat} (h : Sub A' A w) : Sub (A' ++ B) (A ++ B) w := fun q hq => by
 rcases List.mem_append.1 hq with hq | hq
 ·rcases h q hq with h | h
  ·exact .inl (by simp [h])
  ·exact .inr h
 ·exact .inl (by simp [hq])
theorem sub_append {A B B' : List Nat} (h : Sub B' B w) : Sub (A ++ B') (A ++ B) w := fun q hq => by
 rcases List.mem_append.1 hq with hq | hq
 ·exact .inl (by simp [hq])
 ·rcases h q hq with h | h
  ·exact .inl (by simp [h])
  ·exact .inr h
theorem len_comes (hc : CInv K C) {r : Nat} (hr : r < 2) {key : ByteArray} {n : Nat} (hn : n ≤ (K 0).length + (K 1).length) : nPut C key n ≤ (pushK K r key 0).length + (pushK K r key 1).length := by
 unfold nPut
 split
 ·rename_i h
  rcases (hc.is key).1 h with h | h
  ·have d := push_move hc.nd h r
   have d0 := d 0
   have d1 := d 1
   have : r = 0 ∨ r = 1 := by omega
   rcases this with rfl | rfl <;> simp at d0 d1 <;> omega
  ·have d := push_move hc.nd h r
   have d0 := d 0
   have d1 := d 1
   have : r = 0 ∨ r = 1 := by omega
   rcases this with rfl | rfl <;> simp at d0 d1 <;> omega
 ·rename_i h
  have h01 : key ∉ K 0 ∧ key ∉ K 1 := ⟨fun h0 => h ((hc.is key).2 (.inl h0)), fun h0 => h ((hc.is key).2 (.inr h0))⟩
  have p0 := push_len K r 0 key
  have p1 := push_len K r 1 key
  rw [dropK_not h01.1] at p0
  rw [dropK_not h01.2] at p1
  have : r = 0 ∨ r = 1 := by omega
  rcases this with rfl | rfl <;> simp at p0 p1 <;> omega
theorem len_goes (hc : CInv K C) {key : ByteArray} {n : Nat} (hn : n ≤ (K 0).length + (K 1).length) : nDel C key n ≤ (dropK K key 0).length + (dropK K key 1).length := by
 unfold nDel
 split
 ·rename_i h
  rcases (hc.is key).1 h with h | h
  ·have d := drop_len_in hc.nd h
   have d0 := d 0
   have d1 := d 1
   simp at d0 d1; omega
  ·have d := drop_len_in hc.nd h
   have d0 := d 0
   have d1 := d 1
   simp at d0 d1; omega
 ·rename_i h
  have h01 : key ∉ K 0 ∧ key ∉ K 1 := ⟨fun h0 => h ((hc.is key).2 (.inl h0)), fun h0 => h ((hc.is key).2 (.inr h0))⟩
  rw [dropK_not h01.1, dropK_not h01.2]; exact hn
set_option maxRecDepth 100000 in
theorem scomes (H : SR w e g cap x y c sm gh F K C) (ht : tot 3 K ≤ 70000) {r : Nat} (hr : r < 2) (key : ByteArray) (hz : key.size ≤ maxLen) {n : Nat} (hn : n ≤ 3) :
  Calls Tryz.prog 440 #[.pointer (some ⟨e, 0, none⟩), .int .i64 r, .string key, .int .i64 n] w fun en w' => en = .returned (.tuple #[]) ∧ SGo w e g cap x y c sm gh F (pushK K r key) (upM C key (some n)) w' := by
 obtain ⟨F1, Fy, m, rfl, h, hi, hd, hm, hc⟩ := H
 have k0 := h.k0
 have k1 := h.k1
 have hci : CInv (pushK K r key) (upM C key (some n)) := by
  have : r = 0 ∨ r = 1 := by omega
  rcases this with rfl | rfl
  ·exact hc.toSmall hz hn
  ·exact hc.toMain hz hn
 have hm2 := len_comes hc hr (key := key) hm
 have hmb : m ≤ 70000 := by rw [tot3] at ht; omega
 have HC := Lib.hid (And.intro hci hm2)
 have HI := Lib.hid (And.intro hi hd)
 clear hc hci hm2 hi hd hm
 go_enter Tryz.func440, Tryz.ntmps440
 go_wp2_with fail
 refine (epushS h (by omega) (by omega) key hz).mono ?_
 rintro en w1 ⟨rfl, F2, h2, hs2, hf2⟩
 have k3 := h2.kr3
 obtain ⟨hi, hd⟩ := HI.out
 have hi1 := hi.fr hf2 hd.symm
 have hd1 := hd.sub hs2 hi.lt
 have HX := Lib.hid (And.intro h2 (And.intro hs2 (And.intro hf2 hd1)))
 clear h k0 k1 h2 hs2 hf2 hi hd HI hd1
 go_wp2_with fail
 refine (iputI hi1 (by omega) key hz n).mono ?_
 rintro en w2 ⟨b, Fy2, rfl, hi2, hsy, hfy⟩
 have HY := Lib.hid (And.intro hi2 (And.intro hsy hfy))
 clear hi1 hi2 hsy hfy k3
 go_wp2
 go_end0
 obtain ⟨h2, hs2, hf2, hd1⟩ := HX.out
 obtain ⟨hi2, hsy, hfy⟩ := HY.out
 obtain ⟨hci, hm2⟩ := HC.out
 refine ⟨rfl, F2 ++ Fy2, ⟨F2, Fy2, _, rfl, h2.fr irokS hfy hd1, hi2, (hd1.symm.sub hsy (h2.lt irokS)).symm, hm2, hci⟩, ?_, ?_⟩
 ·exact (append_sub hs2).fr (hf2.mono (fun q hq _ => by simp [hq])) (sub_append hsy)
 ·exact (hf2.mono (fun q hq _ => by simp [hq])).same (hfy.mono (fun q hq _ => by simp [hq]))
set_option maxRecDepth 100000 in
theorem sgoes (H : SR w e g cap x y c sm gh F K C) (ht : tot 3 K ≤ 70000) (key : ByteArray) (hz : key.size ≤ maxLen) :
  Calls Tryz.prog 445 #[.pointer (some ⟨e, 0, none⟩), .string key] w fun en w' => en = .returned (.tuple #[]) ∧ SGo w e g cap x y c sm gh F (dropK K key) (upM C key none) w' := by
 obtain ⟨F1, Fy, m, rfl, h, hi, hd, hm, hc⟩ := H
 have k0 := h.k0
 have k1 := h.k1
 have hci := hc.gone key
 have hm2 := len_goes hc (key := key) hm
 have hmb : m ≤ 70000 := by rw [tot3] at ht; omega
 have hdel : ∀ (W : World), IRepI W y Fy C m → Calls Tryz.prog 130 #[.pointer (some ⟨y, 0, none⟩), .string key] W fun en w' => (∃ v b, en = .returned (.tuple #[.int .i64 v, .bool b])) ∧ DelRetI W y m Fy C key w' := by
  intro W hW
  cases hC : C key with
  | none =>
   refine (idelI_none hW key hz hC).mono ?_
   rintro en w' ⟨rfl, h⟩
   exact ⟨⟨_, _, rfl⟩, h⟩
  | some v =>
   refine (idelI hW (by omega) key hz hC).mono ?_
   rintro en w' ⟨rfl, h⟩
   exact ⟨⟨_, _, rfl⟩, h⟩
 have HC := Lib.hid (And.intro hci hm2)
 have HI := Lib.hid (And.intro hi hd)
 have HD := Lib.hid hdel
 clear hc hci hm2 hi hd hm hdel
 go_enter Tryz.func445, Tryz.ntmps445
 go_wp2_with fail
 refine (edropS h (by omega) key hz).mono ?_
 rintro en w1 ⟨rfl, F2, h2, hs2, hf2⟩
 have k3 := h2.kr3
 obtain ⟨hi, hd⟩ := HI.out
 have hi1 := hi.fr hf2 hd.symm
 have hd1 := hd.sub hs2 hi.lt
 have HX := Lib.hid (And.intro h2 (And.intro hs2 (And.intro hf2 hd1)))
 clear h k0 k1 h2 hs2 hf2 hi hd HI hd1
 go_wp2_with fail
 refine (HD.out _ hi1).mono ?_
 rintro en w2 ⟨⟨v, b, rfl⟩, hi2, hfy⟩
 have HY := Lib.hid (And.intro hi2 hfy)
 clear hi1 hi2 hfy k3
 go_wp2
 go_end0
 obtain ⟨h2, hs2, hf2, hd1⟩ := HX.out
 obtain ⟨hi2, hfy⟩ := HY.out
 obtain ⟨hci, hm2⟩ := HC.out
 refine ⟨rfl, F2 ++ Fy, ⟨F2, Fy, _, rfl, h2.fr irokS hfy hd1, hi2, hd1, hm2, hci⟩, ?_, ?_⟩
 ·exact append_sub hs2
 ·exact (hf2.mono (fun q hq _ => by simp [hq])).same (hfy.mono (fun q hq _ => by simp [hq]))
/-- How often a key was used. -/
theorem sget (H : SR w e g cap x y c sm gh F K C) (key : ByteArray) (hz : key.size ≤ maxLen) :
  Calls Tryz.prog 192 #[.pointer (some ⟨y, 0, none⟩), .string key] w fun en w' => ∃ b, en = .returned (.tuple #[.int .i64 (cntOf C key : Nat), .bool b]) ∧ Fr [] w w' := by
 obtain ⟨F1, Fy, m, rfl, h, hi, hd, hm, hc⟩ := H
 cases hC : C key with
 | none =>
  refine (igetI_none hi key hz hC).mono ?_
  rintro en w' ⟨rfl, q, rfl⟩
  exact ⟨false, by simp [cntOf, hC], (Fr.refl _ _).drewN q⟩
 | some v =>
  refine (igetI hi key hz hC).mono ?_
  rintro en w' ⟨rfl, q, rfl⟩
  exact ⟨true, by simp [cntOf, hC], (Fr.refl _ _).drewN q⟩
theorem SR.er (H : SR w e g cap x y c sm gh F K C) : ∃ F1, ERows IRepS 3 225 w e g cap x F1 K [.int .i64 (c : Nat), .int .i64 (sm : Nat), .int .i64 (gh : Nat), .pointer (some ⟨y, 0, none⟩)] := by
 obtain ⟨F1, Fy, m, rfl, h, hi, hd, hm, hc⟩ := H
 exact ⟨F1, h⟩
set_option maxRecDepth 100000 in
theorem slen (H : SR w e g cap x y c sm gh F K C) {s : Nat} (hs : (K 0).length + (K 1).length = s) : Calls Tryz.prog 434 #[.pointer (some ⟨e, 0, none⟩)] w fun en w' => en = .returned (.int .i64 (s : Nat)) ∧ Fr [] w w' := by
 obtain ⟨F1, h⟩ := H.er
 have k0 := h.k0
 have k1 := h.k1
 clear H
 go_enter Tryz.func434, Tryz.ntmps434
 go_wp2_with fail
 refine (emany2S h 0 1 (by decide) (by decide) hs).mono ?_
 rintro en w1 ⟨rfl, hf⟩
 clear h k0 k1
 go_wp2
 go_ret
 exact ⟨rfl, hf⟩
set_option maxRecDepth 100000 in
theorem shas (H : SR w e g cap x y c sm gh F K C) (key : ByteArray) (hz : key.size ≤ maxLen) : Calls Tryz.prog 432 #[.pointer (some ⟨e, 0, none⟩), .string key] w fun en w' => en = .returned (.bool (decide (key ∈ K 0 ∨ key ∈ K 1))) ∧ Fr [] w w' := by
 obtain ⟨F1, h⟩ := H.er
 have hnd := h.nd
 have k0 := h.k0
 have k1 := h.k1
 have HW := Lib.hid (ewhereS h key hz)
 have HN := Lib.hid hnd
 clear H h hnd
 go_enter Tryz.func432, Tryz.ntmps432
 go_wp2_with fail
 refine HW.out.mono ?_
 rintro en w1 ⟨r, rfl, har, hf⟩
 clear k0 k1 HW
 rcases har with ⟨i, hi4, rfl, hik⟩ | ⟨rfl, hno⟩
 ·have hd : (key ∈ K 0 ∨ key ∈ K 1) ↔ i < 2 := by
   constructor
   ·rintro (h | h)
    ·by_cases hi : i = 0
     ·omega
     ·exact absurd h (HN.out.dis i 0 hi _ hik)
    ·by_cases hi : i = 1
     ·omega
     ·exact absurd h (HN.out.dis i 1 hi _ hik)
   ·intro hi
    have : i = 0 ∨ i = 1 := by omega
    rcases this with rfl | rfl
    ·exact .inl hik
    ·exact .inr hik
  have HD := Lib.hid hd
  clear hd hik
  have : i = 0 ∨ i = 1 ∨ i = 2 := by omega
  rcases this with rfl | rfl | rfl
  all_goals
   go_wp2
   go_ret
   refine ⟨?_, hf⟩
   rw [decide_eq_decide.2 HD.out]
   rfl
 ·have HD : Hid (¬ (key ∈ K 0 ∨ key ∈ K 1)) := fun h => by rcases h with h | h; exact hno 0 h; exact hno 1 h
  clear hno
  go_wp2
  go_ret
  exact ⟨by rw [decide_eq_false HD.out]; rfl, hf⟩
end
end Go.Proofs.YtphlancijlljcaaGreat

set_option linter.unusedVariables false
set_option linter.unusedSimpArgs false
namespace Go.Proofs.YtphlancijlljcaaGreat
open Go.RowKit
attribute [local go_sem ↓] Go.wp_at_zero Go.wp_at_succ
section
variable {w w' w1 w2 w0 : World} {e g cap x y c sm gh : Nat} {F F1 G : List Nat} {K : Rows} {C : Cnt}
theorem SR.k0 (H : SR w e g cap x y c sm gh F K C) : w.cell? ⟨e, 0, none⟩ = some (.slice (some ⟨g, 0, none⟩) 3 cap) := by obtain ⟨F1, h⟩ := H.er; exact h.k0
theorem SR.k1 (H : SR w e g cap x y c sm gh F K C) : w.cell? ⟨e, 1, none⟩ = some (.pointer (some ⟨x, 0, none⟩)) := by obtain ⟨F1, h⟩ := H.er; exact h.k1
theorem SR.k2 (H : SR w e g cap x y c sm gh F K C) : w.cell? ⟨e, 2, none⟩ = some (.int .i64 c) := by obtain ⟨F1, h⟩ := H.er; exact h.kr0
theorem SR.k3 (H : SR w e g cap x y c sm gh F K C) : w.cell? ⟨e, 3, none⟩ = some (.int .i64 sm) := by obtain ⟨F1, h⟩ := H.er; exact h.kr1
theorem SR.k4 (H : SR w e g cap x y c sm gh F K C) : w.cell? ⟨e, 4, none⟩ = some (.int .i64 gh) := by obtain ⟨F1, h⟩ := H.er; exact h.kr2
theorem SR.k5 (H : SR w e g cap x y c sm gh F K C) : w.cell? ⟨e, 5, none⟩ = some (.pointer (some ⟨y, 0, none⟩)) := by obtain ⟨F1, h⟩ := H.er; exact h.kr3
theorem SR.oldest (H : SR w e g cap x y c sm gh F K C) {r : Nat} (hr : r < 3) : Calls Tryz.prog 450 #[.agg #[.slice (some ⟨g, 0, none⟩) 3 cap, .pointer (some ⟨x, 0, none⟩)], .int .i64 r] w fun en w' => en = .returned (.string (oldest K r)) ∧ Fr [] w w' := by
 obtain ⟨F1, h⟩ := H.er
 exact eoldestS h hr
theorem SR.many1 (H : SR w e g cap x y c sm gh F K C) (a : Nat) (ha : a < 3) {s : Nat} (hs : (K a).length = s) {T0 : TypeId} :
  Calls Tryz.prog 441 #[.agg #[.slice (some ⟨g, 0, none⟩) 3 cap, .pointer (some ⟨x, 0, none⟩)], .slice (some ⟨w.heap.size, 0, none⟩) 1 1] (w.alloc (.cells #[.int .i64 (a : Nat)] T0)) fun en w' => en = .returned (.int .i64 (s : Nat)) ∧ Fr [] w w' := by
 obtain ⟨F1, h⟩ := H.er
 exact emany1S h a ha hs
def EvS (w : World) (e g cap x y c sm gh : Nat) (F : List Nat) (key : ByteArray) (K : Rows) (C : Cnt) (en : Ending) (w' : World) : Prop := en = .returned (.string key) ∧ SGo w e g cap x y c sm gh F K C w'
theorem tot_move {key : ByteArray} {j r : Nat} (hn : RNd 3 K) (h : key ∈ K j) (hj : j < 3) (hr : r < 3) : tot 3 (pushK K r key) = tot 3 K := by
 have d := push_move hn h r
 have d0 := d 0
 have d1 := d 1
 have d2 := d 2
 rw [tot3, tot3]
 have : j = 0 ∨ j = 1 ∨ j = 2 := by omega
 have : r = 0 ∨ r = 1 ∨ r = 2 := by omega
 rcases ‹j = 0 ∨ _› with rfl | rfl | rfl <;> rcases ‹r = 0 ∨ _› with rfl | rfl | rfl <;> simp at d0 d1 d2 <;> omega
set_option maxHeartbeats 4000000 in
set_option maxRecDepth 100000 in
theorem sfromMain (H : SR w e g cap x y c sm gh F K C) (ht : tot 3 K ≤ 70000) (h1 : 0 < (K 1).length) (f : Nat) (hf : wt C (K 1) < f) :
  Calls Tryz.prog 443 #[.pointer (some ⟨e, 0, none⟩)] w (EvS w e g cap x y c sm gh F (s3Main f K C).1 (s3Main f K C).2.1 (s3Main f K C).2.2) := by
 obtain ⟨res, hres⟩ : ∃ r, s3Main f K C = r := ⟨_, rfl⟩
 rw [hres]
 have HR := Lib.hid hres
 clear hres
 have H0 := Lib.hid H
 clear H
 go_enter Tryz.func443, Tryz.ntmps443
 go_wp2_with fail
 go_loopg [] f (fun gg wr => ∃ (Kc : Rows) (Cc : Cnt) (Fc : List Nat), Aside (∃ f', f' = gg ∧ s3Main f' Kc Cc = res ∧ wt Cc (Kc 1) < f' ∧ 0 < (Kc 1).length) ∧ tot 3 Kc ≤ 70000 ∧ SR wr e g cap x y c sm gh Fc Kc Cc ∧ Sub Fc F w ∧ Fr F w wr)
 case atStart => exact ⟨K, C, F, ⟨f, rfl, HR.out, hf, h1⟩, ht, H0.out, Sub.refl _ _, Fr.refl _ _⟩
 case round =>
  obtain ⟨Kc, Cc, Fc, hA, htc, H, hsc, hgc⟩ := hrel
  have k0 := H.k0
  have k1 := H.k1
  have hci := H.ci
  have hsz := oldest_sz hci.nd 1
  have HX := Lib.hid (And.intro hsc (And.intro hgc hci))
  clear hsc hgc hci
  go_wp2_with fail
  refine (H.oldest (r := 1) (by decide)).mono ?_
  rintro en w1 ⟨rfl, hf1⟩
  replace H := H.fr0 hf1
  have k5 := H.k5
  clear k0 k1
  go_wp2_with fail
  refine (sget H (oldest Kc 1) hsz).mono ?_
  rintro en w2 ⟨b, rfl, hf2⟩
  have hF := hf1.same hf2
  replace H := H.fr0 hf2
  have HF := Lib.hid hF
  obtain ⟨n, hn⟩ : ∃ n, cntOf Cc (oldest Kc 1) = n := ⟨_, rfl⟩
  have hn3 : n ≤ 3 := by rw [← hn]; exact cnt_le3 HX.out.2.2 _
  have HN := Lib.hid hn
  rw [hn]
  clear hF hf1 hf2 k5 hn
  by_cases hz : n = 0
  ·subst hz
   go_wp2_with fail
   refine (sgoes H htc _ hsz).mono ?_
   rintro en w3 ⟨rfl, hsg⟩
   have HS := Lib.hid hsg
   clear hsg H
   go_wp2
   go_ret
   obtain ⟨hsc, hgc, hci⟩ := HX.out
   obtain ⟨f', a0, a1, a2, a3⟩ := hA.out
   obtain ⟨f2, rfl⟩ : ∃ f2, f' = f2 + 1 := ⟨f' - 1, by omega⟩
   unfold s3Main at a1
   rw [if_pos HN.out] at a1
   rw [← a1]
   refine ⟨rfl, SGo.trans hsc hgc (HS.out.old HF.out)⟩
  ·have q1 : ((n : Int) == 0) = false := by rw [beq_eq_false_iff_ne]; omega
   obtain ⟨m, hm⟩ : ∃ m, n = m + 1 := ⟨n - 1, by omega⟩
   subst hm
   go_wp2_with fail
   refine (scomes H htc (r := 1) (by decide) _ hsz (n := m) (by omega)).mono ?_
   rintro en w3 ⟨rfl, F3, H3, hs3, hg3⟩
   have HG := Lib.hid (And.intro H3 (And.intro hs3 hg3))
   clear H H3 hs3 hg3
   go_wp2_with fail
   obtain ⟨hsc, hgc, hci⟩ := HX.out
   obtain ⟨H3, hs3, hg3⟩ := HG.out
   obtain ⟨f', a0, a1, a2, a3⟩ := hA.out
   obtain ⟨f2, rfl⟩ : ∃ f2, f' = f2 + 1 := ⟨f' - 1, by omega⟩
   have hm := oldest_mem a3
   have hw := wt_round hci a3 (by rw [HN.out]; omega)
   have htm := tot_move hci.nd hm (r := 1) (by decide) (by decide)
   have hpl := push_move hci.nd hm 1 1
   simp at hpl
   unfold s3Main at a1
   rw [HN.out, if_neg (by omega)] at a1
   rw [HN.out] at hw
   simp only [Nat.add_sub_cancel] at a1 hw
   have hs4 := hs3.old HF.out.size
   have hg4 := HF.out.nil.same hg3
   go_roundg f2
   case measure => omega
   case rel => exact ⟨_, _, F3, ⟨f2, rfl, a1, by omega, by omega⟩, by omega, H3, hsc.fr hgc hs4, hgc.via hsc hg4⟩
end
end Go.Proofs.YtphlancijlljcaaGreat
