/- The walks over package mix, and over hoardref1's twins: one pure word for both. -/
import Derived.Test.YtphlancijlljcaaGreatBase
import Derived.Test.YtphlancijlljcaaGreatChecked
import Derived.OpenShut
import Derived.Laws.BytesArg
set_option linter.unusedVariables false
set_option linter.unusedSimpArgs false
namespace Go.Proofs.YtphlancijlljcaaGreat
open Go.RowKit
attribute [local go_sem ↓] Go.wp_at_zero Go.wp_at_succ

def mixI1 (x : Int) : Int := IntKind.u64.wrap (bits BinOp.xor IntKind.u64 x (x / 1073741824) * 13787848793156543929)
def mixI2 (x : Int) : Int := IntKind.u64.wrap (bits BinOp.xor IntKind.u64 x (x / 134217728) * 10723151780598845931)
def mixI (x : Int) : Int := bits BinOp.xor IntKind.u64 (mixI2 (mixI1 x)) (mixI2 (mixI1 x) / 2147483648)
theorem bits64 (op : BinOp) (x y : Int) : 0 ≤ bits op .u64 x y ∧ bits op .u64 x y < 18446744073709551616 := by
  have h := wf_bits op .u64 x y
  have e1 : IntKind.u64.min = 0 := by decide
  have e2 : IntKind.u64.max = 18446744073709551615 := by decide
  simp [Lit.wf, e1, e2] at h
  omega
theorem mixI_bd (x : Int) : 0 ≤ mixI x ∧ mixI x < 18446744073709551616 := bits64 _ _ _
theorem wrap64b (x : Int) : 0 ≤ IntKind.u64.wrap x ∧ IntKind.u64.wrap x < 18446744073709551616 := by
  have h : IntKind.u64.wrap x = x % 18446744073709551616 := by simp [IntKind.wrap, IntKind.bits, IntKind.signed]
  omega
def hashF (h : Int) (b : UInt8) : Int := mixI (IntKind.u64.wrap (bits BinOp.xor IntKind.u64 h (IntKind.u64.wrap b.toNat) + 11400714819323198485))
def hashN (seed : Int) (s : ByteArray) (k : Nat) : Int := (s.data.toList.take k).foldl hashF (mixI (bits BinOp.xor IntKind.u64 seed s.size))
def hashI (seed : Int) (s : ByteArray) : Int := hashN seed s s.size
theorem hashN_bd (seed : Int) (s : ByteArray) (k : Nat) : 0 ≤ hashN seed s k ∧ hashN seed s k < 18446744073709551616 := by
  unfold hashN
  generalize s.data.toList.take k = l
  have h := mixI_bd (bits BinOp.xor IntKind.u64 seed s.size)
  generalize mixI (bits BinOp.xor IntKind.u64 seed s.size) = a at h
  induction l generalizing a with
  | nil => exact h
  | cons b l ih => exact ih _ (mixI_bd _)
theorem hashI_bd (seed : Int) (s : ByteArray) : 0 ≤ hashI seed s ∧ hashI seed s < 18446744073709551616 := hashN_bd _ _ _
theorem hashN_succ (seed : Int) (s : ByteArray) (k : Nat) (h : k < s.size) : hashN seed s (k + 1) = hashF (hashN seed s k) s[k] := by
  unfold hashN
  rw [List.take_add_one, List.foldl_append]
  have : s.data.toList[k]? = some s[k] := by
    rw [List.getElem?_eq_getElem (by simpa using h)]; rfl
  simp [this]
theorem and24 (h : Int) (h0 : 0 ≤ h) (h1 : h < 18446744073709551616) : bits BinOp.and IntKind.u64 h 16777215 = h % 16777216 := by
  obtain ⟨a, rfl⟩ := Int.eq_ofNat_of_zero_le h0
  have h1' : (BitVec.ofInt 64 (a : Int)).toNat = a := by
    rw [BitVec.ofInt_natCast, BitVec.toNat_ofNat]; exact Nat.mod_eq_of_lt (by omega)
  have h2 : (BitVec.ofInt 64 (16777215 : Int)).toNat = 16777215 := by decide
  show IntKind.u64.wrap ((BitVec.ofInt 64 (a : Int) &&& BitVec.ofInt 64 16777215).toNat : Int) = _
  rw [BitVec.toNat_and, h1', h2, show (16777215 : Nat) = 2 ^ 24 - 1 from rfl, Nat.and_two_pow_sub_one_eq_mod]
  have : IntKind.u64.wrap ((a % 2 ^ 24 : Nat) : Int) = ((a % 2 ^ 24 : Nat) : Int) % 18446744073709551616 := by simp [IntKind.wrap, IntKind.bits, IntKind.signed]
  rw [this]
  omega
def placeN (h : Int) (n : Nat) : Nat := (h % n).toNat
theorem placeN_lt (h : Int) (n : Nat) (hn : 1 ≤ n) : placeN h n < n := by
  have h3 : h % (n : Int) < n := Int.emod_lt_of_pos _ (by omega)
  have := Int.emod_nonneg h (show (n : Int) ≠ 0 by omega)
  unfold placeN; omega

theorem mix_mix (x : Int) (h0 : 0 ≤ x) (h1 : x < 18446744073709551616) (w : World) : Calls Tryz.prog 200 #[.int .u64 x] w fun e w' => e = .returned (.int .u64 (mixI x)) ∧ w = w' := by
  go_enter Tryz.func200, Tryz.ntmps200
  go_wp2
  go_ret
  exact ⟨rfl, rfl⟩
theorem mix_hash (seed : Int) (h0 : 0 ≤ seed) (h1 : seed < 18446744073709551616) (s : ByteArray) (hs : s.size ≤ maxLen) (w : World) :
    Calls Tryz.prog 139 #[.int .u64 seed, .string s] w fun e w' => e = .returned (.int .u64 (hashI seed s)) ∧ w = w' := by
  have hmx : maxLen = 9223372036854775807 := rfl
  go_enter Tryz.func139, Tryz.ntmps139
  go_wp2_with fail
  refine (mix_mix _ (bits64 _ _ _).1 (bits64 _ _ _).2 _).mono ?_
  rintro e w1 ⟨rfl, rfl⟩
  go_wp2_with fail
  go_loop [5, 15] (fun h i => ∃ k : Nat, k ≤ s.size ∧ i = .int .i64 k ∧ h = .int .u64 (hashN seed s k)) (fun _ i => s.size - (intOf i).toNat)
  case atStart => exact ⟨0, by omega, rfl, rfl⟩
  case round =>
    obtain ⟨k, hk, rfl, rfl⟩ := hrel
    have hb := hashN_bd seed s k
    by_cases hlt : k < s.size
    · obtain ⟨g, hg⟩ : ∃ g, hashN seed s k = g := ⟨_, rfl⟩
      rw [hg] at hb ⊢
      go_wp2_with fail
      refine (mix_mix _ (wrap64b _).1 (wrap64b _).2 _).mono ?_
      rintro e w1 ⟨rfl, rfl⟩
      go_wp2_with fail
      exact ⟨⟨k + 1, by omega, by go_num, by rw [hashN_succ _ _ _ hlt, hg]; rfl⟩, by simp [intOf]; omega⟩
    · go_wp2
      go_ret
      have : k = s.size := by omega
      subst this
      exact ⟨rfl, rfl⟩
theorem mix_place (h : Int) (h0 : 0 ≤ h) (h1 : h < 18446744073709551616) (n : Nat) (hn : 1 ≤ n) (hn2 : n ≤ 9223372036854775807) (w : World) :
    Calls Tryz.prog 250 #[.int .u64 h, .int .i64 n] w fun e w' => e = .returned (.int .i64 (placeN h n)) ∧ w = w' := by
  go_enter Tryz.func250, Tryz.ntmps250
  go_wp2
  go_ret
  refine ⟨?_, rfl⟩
  have h2 : h % (n : Int) = ((placeN h n : Nat) : Int) := by
    unfold placeN; rw [Int.toNat_of_nonneg (Int.emod_nonneg _ (by omega))]
  have h3 : h % (n : Int) < n := Int.emod_lt_of_pos _ (by omega)
  have h4 : RowKit.wrap64 (h % (n : Int)) = h % (n : Int) := by
    have := Int.emod_nonneg h (show (n : Int) ≠ 0 by omega)
    unfold RowKit.wrap64; omega
  rw [h4, h2]
  rfl
theorem mix_sampled (h : Int) (h0 : 0 ≤ h) (h1 : h < 18446744073709551616) (rate : Int) (w : World) :
    Calls Tryz.prog 138 #[.int .u64 h, .int .i64 rate] w fun e w' => e = .returned (.bool (decide (h % 16777216 < rate))) ∧ w = w' := by
  go_enter Tryz.func138, Tryz.ntmps138
  go_wp2
  go_ret
  refine ⟨?_, rfl⟩
  have h4 : RowKit.wrap64 (h % 16777216) = h % 16777216 := by unfold RowKit.wrap64; omega
  try rw [and24 h h0 h1, h4]
  rfl
theorem hoardref1_mix (x : Int) (h0 : 0 ≤ x) (h1 : x < 18446744073709551616) (w : World) : Calls Tryz.prog 92 #[.int .u64 x] w fun e w' => e = .returned (.int .u64 (mixI x)) ∧ w = w' := by
  go_enter Tryz.func92, Tryz.ntmps92
  go_wp2
  go_ret
  exact ⟨rfl, rfl⟩
theorem hoardref1_hash (seed : Int) (h0 : 0 ≤ seed) (h1 : seed < 18446744073709551616) (s : ByteArray) (hs : s.size ≤ maxLen) (w : World) :
    Calls Tryz.prog 39 #[.int .u64 seed, .string s] w fun e w' => e = .returned (.int .u64 (hashI seed s)) ∧ w = w' := by
  have hmx : maxLen = 9223372036854775807 := rfl
  go_enter Tryz.func39, Tryz.ntmps39
  go_wp2_with fail
  refine (hoardref1_mix _ (bits64 _ _ _).1 (bits64 _ _ _).2 _).mono ?_
  rintro e w1 ⟨rfl, rfl⟩
  go_wp2_with fail
  go_loop [5, 6] (fun h i => ∃ k : Nat, k ≤ s.size ∧ i = .int .i64 k ∧ h = .int .u64 (hashN seed s k)) (fun _ i => s.size - (intOf i).toNat)
  case atStart => exact ⟨0, by omega, rfl, rfl⟩
  case round =>
    obtain ⟨k, hk, rfl, rfl⟩ := hrel
    have hb := hashN_bd seed s k
    by_cases hlt : k < s.size
    · obtain ⟨g, hg⟩ : ∃ g, hashN seed s k = g := ⟨_, rfl⟩
      rw [hg] at hb ⊢
      go_wp2_with fail
      refine (hoardref1_mix _ (wrap64b _).1 (wrap64b _).2 _).mono ?_
      rintro e w1 ⟨rfl, rfl⟩
      go_wp2_with fail
      exact ⟨⟨k + 1, by omega, by go_num, by rw [hashN_succ _ _ _ hlt, hg]; rfl⟩, by simp [intOf]; omega⟩
    · go_wp2
      go_ret
      have : k = s.size := by omega
      subst this
      exact ⟨rfl, rfl⟩
theorem hoardref1_place (h : Int) (h0 : 0 ≤ h) (h1 : h < 18446744073709551616) (n : Nat) (hn : 1 ≤ n) (hn2 : n ≤ 9223372036854775807) (w : World) :
    Calls Tryz.prog 261 #[.int .u64 h, .int .i64 n] w fun e w' => e = .returned (.int .i64 (placeN h n)) ∧ w = w' := by
  go_enter Tryz.func261, Tryz.ntmps261
  go_wp2
  go_ret
  refine ⟨?_, rfl⟩
  have h2 : h % (n : Int) = ((placeN h n : Nat) : Int) := by
    unfold placeN; rw [Int.toNat_of_nonneg (Int.emod_nonneg _ (by omega))]
  have h3 : h % (n : Int) < n := Int.emod_lt_of_pos _ (by omega)
  have h4 : RowKit.wrap64 (h % (n : Int)) = h % (n : Int) := by
    have := Int.emod_nonneg h (show (n : Int) ≠ 0 by omega)
    unfold RowKit.wrap64; omega
  rw [h4, h2]
  rfl
theorem hoardref1_sampled (h : Int) (h0 : 0 ≤ h) (h1 : h < 18446744073709551616) (rate : Int) (w : World) :
    Calls Tryz.prog 38 #[.int .u64 h, .int .i64 rate] w fun e w' => e = .returned (.bool (decide (h % 16777216 < rate))) ∧ w = w' := by
  go_enter Tryz.func38, Tryz.ntmps38
  go_wp2
  go_ret
  refine ⟨?_, rfl⟩
  have h4 : RowKit.wrap64 (h % 16777216) = h % 16777216 := by unfold RowKit.wrap64; omega
  try rw [and24 h h0 h1, h4]
  rfl
end Go.Proofs.YtphlancijlljcaaGreat
