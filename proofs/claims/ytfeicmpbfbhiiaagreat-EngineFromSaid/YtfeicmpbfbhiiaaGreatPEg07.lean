/- Texts of a proof about the given program, those parts that this claim reaches. -/
import Derived.Test.YtfeicmpbfbhiiaaGreatPEg06
set_option linter.unusedVariables false
set_option linter.unusedSimpArgs false
namespace Go.Proofs.YtfeicmpbfbhiiaaGreat
open Go.RowKit
attribute [local go_sem ↓] Go.wp_at_zero Go.wp_at_succ
def nPut {α : Type} (M : ByteArray → Option α) (key : ByteArray) (n : Nat) : Nat := if (M key).isSome then n else n + 1
def nDel {α : Type} (M : ByteArray → Option α) (key : ByteArray) (n : Nat) : Nat := if (M key).isSome then n - 1 else n
/-- Of a key that is there. -/
theorem igetI {w : World} {p n : Nat} {F : List Nat} {M : ByteArray → Option (Nat)} (H : IRepI w p F M n) (key : ByteArray) (hk : key.size ≤ maxLen) {x : Nat} (hM : M key = some x) :
  Calls Tryz.prog 235 #[.pointer (some ⟨p, 0, none⟩), .string key] w fun e w' => e = .returned (.tuple #[.int .i64 (x : Nat), .bool true]) ∧ ∃ q, w' = w.drewN q := by
 obtain ⟨g, off, c, m, T, used, rfl, hr, ht, h2, hm, hks⟩ := H
 refine (getI_raw hr ht (by omega) key hk).mono ?_
 rintro e w' ⟨⟨y, hy, rfl⟩ | ⟨hy, _⟩, hq⟩
 ·rw [hM] at hy; cases hy; exact ⟨rfl, hq⟩
 ·rw [hM] at hy; cases hy
theorem igetI_none {w : World} {p n : Nat} {F : List Nat} {M : ByteArray → Option (Nat)} (H : IRepI w p F M n) (key : ByteArray) (hk : key.size ≤ maxLen) (hM : M key = none) :
  Calls Tryz.prog 235 #[.pointer (some ⟨p, 0, none⟩), .string key] w fun e w' => e = .returned (.tuple #[.int .i64 0, .bool false]) ∧ ∃ q, w' = w.drewN q := by
 obtain ⟨g, off, c, m, T, used, rfl, hr, ht, h2, hm, hks⟩ := H
 refine (getI_raw hr ht (by omega) key hk).mono ?_
 rintro e w' ⟨⟨y, hy, _⟩ | ⟨_, rfl⟩, hq⟩
 ·rw [hM] at hy; cases hy
 ·exact ⟨rfl, hq⟩
def PutRetI (w : World) (p n : Nat) (F : List Nat) (M : ByteArray → Option (Nat)) (key : ByteArray) (x : Nat) (e : Ending) (w' : World) : Prop :=
 ∃ b F', e = .returned (.bool b) ∧ IRepI w' p F' (upM M key (some x)) (nPut M key n) ∧ Sub F' F w ∧ Fr F w w'
set_option maxRecDepth 100000 in
set_option maxHeartbeats 1000000 in
theorem iputI {w : World} {p n : Nat} {F : List Nat} {M : ByteArray → Option (Nat)} (H : IRepI w p F M n) (hn : n ≤ 90000) (key : ByteArray) (hk : key.size ≤ maxLen) (x : Nat) :
  Calls Tryz.prog 195 #[.pointer (some ⟨p, 0, none⟩), .string key, .int .i64 (x : Nat)] w (PutRetI w p n F M key x) := by
 obtain ⟨g, off, c, m, T, used, rfl, hr, ht, h2, hm, hks⟩ := H
 have hf := findI hr ht (by omega) key hk
 obtain ⟨a0, a1, a2, a3⟩ := hr.head
 have hgl := hr.2.2.lt g (by simp [Value.ownBlock])
 have hle := ht.nle
 have HF := Lib.hid hf
 have HT := Lib.hid ht
 have HK := Lib.hid hks
 have z := hr.frz
 clear hf ht hks
 go_enter Tryz.func195, Tryz.ntmps195
 go_wp2_with fail
 refine HF.out.mono ?_
 rintro e w1 ⟨i, b, rfl, hfd, q, rfl⟩
 have hraw := hr.keep ((Fr.refl [] _).drewN q) (by simp) (by simp)
 clear hr
 cases b with
 | true =>
  obtain ⟨hi, ht2, _⟩ := hfd
  obtain ⟨e1, e2⟩ := ht2 rfl
  obtain ⟨q2, _⟩ := hraw.vcell i hi
  have hfin : IRawI _ p g off c m (up T i { T i with v := x }) n used := hraw.setV i hi x
  have hfin2 := HT.out.set (x := x) hi e1 e2
  have hM := HT.out.ok i hi e1
  rw [e2] at hM
  have F1 := Lib.hid (And.intro hfin (And.intro hfin2 (And.intro hM (HK.out.up i { T i with v := x } (by show (T i).key.size ≤ maxLen; rw [e2]; exact hk)))))
  clear hfin hfin2 hM ht2 e1 e2 hraw
  go_wp2
  go_ret
  have e : nPut M key n = n := by simp [nPut, F1.out.2.2.1]
  refine ⟨false, [p, g], rfl, by rw [e]; exact ⟨g, off, c, m, _, used, rfl, F1.out.1, F1.out.2.1, h2, hm, F1.out.2.2.2⟩, by intro b hb; exact .inl hb, ?_⟩
  ·refine Fr.setCell ?_ (by simp) _
   exact (Fr.refl _ _).drewN q
 | false =>
  have hMn := (hfd.2.2 rfl).1
  have hm8 := HT.out.m8
  go_wp2_with fail
  refine (laysI hraw i hfd.1 (by omega) (by omega) (by omega) (HT.out.le2 i hfd.1) key x).mono ?_
  rintro e w2 ⟨rfl, hraw2, hf2⟩
  have htn := HT.out.lays (x := x) hfd (by omega)
  have hks2 := HK.out.up i ⟨2, key, x⟩ hk
  have hu2 : (if (T i).is = 0 then used + 1 else used) ≤ used + 1 := by split <;> omega
  obtain ⟨u2, hu⟩ : ∃ u2, (if (T i).is = 0 then used + 1 else used) = u2 := ⟨_, rfl⟩
  rw [hu] at hraw2 htn hu2
  obtain ⟨T2, hT2⟩ : ∃ T2, up T i ⟨2, key, x⟩ = T2 := ⟨_, rfl⟩
  rw [hT2] at hraw2 htn hks2
  have hfr : Fr [p, g] w w2 := ((Fr.refl _ w).drewN q).same hf2
  have F1 := Lib.hid (And.intro htn (And.intro hks2 hMn))
  obtain ⟨b0, b1, b2, b3⟩ := hraw2.head
  clear htn hks2 hMn hfd hu hT2 hf2 hraw a0 a1 a2 a3 z
  go_wp2_with fail
  go_quiet (fail)
  have hraw3 := hraw2.keep ((Fr.refl [] _).drewN nq) (by simp) (by simp)
  have hfr3 := hfr.drewN nq
  have hn1 : nPut M key n = n + 1 := by simp [nPut, F1.out.2.2]
  have HN := Lib.hid hn1
  clear hn1 hraw2 hfr
  by_cases hbig : m < 2 * u2
  ·go_wp2_with fail
   refine (growsI hraw3 F1.out.1 (by omega) (by omega) (by omega) F1.out.2.1).mono ?_
   rintro e w3 ⟨rfl, g', hrep, hg', hf3⟩
   go_wp2
   go_ret
   refine ⟨true, [p, g'], rfl, by rw [HN.out]; exact hrep, ?_, hfr3.same (hf3.mono (fun b hb _ => by simp at hb; simp [hb]))⟩
   intro b hb
   simp at hb ⊢
   rcases hb with h | h
   ·exact .inl (.inl h)
   ·right
    have := hfr3.size
    omega
  ·go_wp2
   go_ret
   exact ⟨true, [p, g], rfl, ⟨g, off, c, m, T2, u2, rfl, by rw [HN.out]; exact hraw3, by rw [HN.out]; exact F1.out.1, by omega, hm, F1.out.2.1⟩, by intro b hb; exact .inl hb, hfr3⟩
def DelRetI (w : World) (p n : Nat) (F : List Nat) (M : ByteArray → Option (Nat)) (key : ByteArray) (w' : World) : Prop :=
 IRepI w' p F (upM M key none) (nDel M key n) ∧ Fr F w w'
end Go.Proofs.YtfeicmpbfbhiiaaGreat
