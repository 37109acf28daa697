/- The walk over hoardlaw5.name: two letters of a number. -/
import Derived.Test.YtapfkpkomdmibaaProg
import Derived.Test.YtapfkpkomdmibaaSl
import Derived.Laws.BytesArg
set_option linter.unusedVariables false
set_option linter.unusedSimpArgs false
namespace Go.Proofs.Ytapfkpkomdmibaa
open Go.RowKit
/-- 'n & 3' lies between 0 and 3. -/
theorem i64_and3_bd (n : Int) : 0 ≤ bits .and .i64 n 3 ∧ bits .and .i64 n 3 ≤ 3 := by
  have h3 : (BitVec.ofInt 64 3).toNat = 3 := by decide
  have hle : (BitVec.ofInt 64 n &&& BitVec.ofInt 64 3).toNat ≤ 3 := by
    rw [BitVec.toNat_and, h3]
    exact Nat.and_le_right
  show 0 ≤ IntKind.i64.wrap ((BitVec.ofInt 64 n &&& BitVec.ofInt 64 3).toNat : Nat) ∧ IntKind.i64.wrap ((BitVec.ofInt 64 n &&& BitVec.ofInt 64 3).toNat : Nat) ≤ 3
  rw [IntKind.wrap_i64]
  omega
def nm (n : Nat) : ByteArray := strOfNums [97 + (n : Int) % 26, 97 + (n : Int) / 26 % 26]
theorem name5 (n : Nat) (hn : n ≤ 10000) (w : World) : Calls Try.prog 31 #[.int .i64 n] w fun e w' => e = .returned (.string (nm n)) ∧ Fr [] w w' := by
  have hcv := fun (x y : Int) => run_convert_bytes_arg (P := Try.prog) (w.alloc (.cells #[.int .u8 x, .int .u8 y] 5)) 76 5 Try.underlying76 Try.underlying5 w.heap.size 0 2 2 [x, y] rfl
    (fun i hi => by rw [cell_of_block (block_alloc_new w _)]; obtain rfl | rfl : i = 0 ∨ i = 1 := by omega
                    · rfl
                    · rfl) 9 Try.underlying9
  go_enter Try.func31, Try.ntmps31
  go_wp2
  go_ret
  exact ⟨rfl, (Fr.refl _ _).alloc _⟩
end Go.Proofs.Ytapfkpkomdmibaa
