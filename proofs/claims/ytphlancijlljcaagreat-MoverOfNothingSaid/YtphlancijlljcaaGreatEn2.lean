/- All methods of the engine of whatever kind. -/
import Derived.Test.YtphlancijlljcaaGreatEn
import Derived.Test.YtphlancijlljcaaGreatRem
import Derived.Test.YtphlancijlljcaaGreatGF
import Derived.Test.YtphlancijlljcaaGreatGE
set_option linter.unusedVariables false
set_option linter.unusedSimpArgs false
namespace Go.Proofs.YtphlancijlljcaaGreat
open Go.RowKit
attribute [local go_sem ↓] Go.wp_at_zero Go.wp_at_succ
namespace En
def load : En → ByteArray → Bool × En
 | A s, k => ((s.load k).1, A (s.load k).2) | L s, k => ((s.load k).1, L (s.load k).2) | Q s, k => ((s.load k).1, Q (s.load k).2) | U s, k => ((s.load k).1, U (s.load k).2) | S s, k => ((s.load k).1, S (s.load k).2)
def remove : En → ByteArray → Bool × En
 | A s, k => ((s.remove k).1, A (s.remove k).2) | L s, k => ((s.remove k).1, L (s.remove k).2) | Q s, k => ((s.remove k).1, Q (s.remove k).2) | U s, k => ((s.remove k).1, U (s.remove k).2) | S s, k => ((s.remove k).1, S (s.remove k).2)
def evict : En → ByteArray × Bool × En
 | A s => (s.evict.1, s.evict.2.1, A s.evict.2.2) | L s => (s.evict.1, s.evict.2.1, L s.evict.2.2) | Q s => (s.evict.1, s.evict.2.1, Q s.evict.2.2) | U s => (s.evict.1, s.evict.2.1, U s.evict.2.2) | S s => (s.evict.1, s.evict.2.1, S s.evict.2.2)
def has : En → ByteArray → Bool | A s => s.has | L s => s.has | Q s => s.has | U s => s.has | S s => s.has
def len : En → Nat | A s => s.len | L s => s.len | Q s => s.len | U s => s.len | S s => s.len
def cap : En → Nat | A s => s.c | L s => s.c | Q s => s.c | U s => s.c | S s => s.c
def keys : En → List ByteArray | A s => s.K 0 ++ s.K 1 | L s => s.keys | Q s => s.K 0 ++ s.K 2 | U s => s.K 0 ++ (s.K 1 ++ s.K 2) | S s => s.K 0 ++ s.K 1
theorem load_kd (s : En) (key : ByteArray) : (s.load key).2.kd = s.kd := by cases s <;> rfl
theorem remove_kd (s : En) (key : ByteArray) : (s.remove key).2.kd = s.kd := by cases s <;> rfl
theorem evict_kd (s : En) : s.evict.2.2.kd = s.kd := by cases s <;> rfl
theorem new_kd (k : Nat) (hk : k < 5) (room : Int) : (En.new k room).kd = k := by
 match k, hk with
 | 0, _ => rfl
 | 1, _ => rfl
 | 2, _ => rfl
 | 3, _ => rfl
 | 4, _ => rfl
end En
def kLoad (k : Nat) : Nat := match k with | 0 => 296 | 1 => 344 | 2 => 373 | 3 => 397 | _ => 435
theorem enmLoad {k : Nat} (hk : k < 5) (a : Addr) (w : World) : (method 500 (kTy k) (.pointer (some a)) "Load").run Tryz.prog w = .ok (kLoad k, .pointer (some a)) w := by
 have : k = 0 ∨ k = 1 ∨ k = 2 ∨ k = 3 ∨ k = 4 := by omega
 rcases this with rfl | rfl | rfl | rfl | rfl <;> (show _ = _; kernel_rfl)
theorem encLoad {k : Nat} (hk : k < 5) (args : Array Value) (w : World) : (callFunc (kLoad k) args).run Tryz.prog w = .ok (.enter (kLoad k) args) w := by
 have : k = 0 ∨ k = 1 ∨ k = 2 ∨ k = 3 ∨ k = 4 := by omega
 rcases this with rfl | rfl | rfl | rfl | rfl <;> (show _ = _; kernel_rfl)
def kRemove (k : Nat) : Nat := match k with | 0 => 297 | 1 => 345 | 2 => 374 | 3 => 398 | _ => 436
theorem enmRemove {k : Nat} (hk : k < 5) (a : Addr) (w : World) : (method 500 (kTy k) (.pointer (some a)) "Remove").run Tryz.prog w = .ok (kRemove k, .pointer (some a)) w := by
 have : k = 0 ∨ k = 1 ∨ k = 2 ∨ k = 3 ∨ k = 4 := by omega
 rcases this with rfl | rfl | rfl | rfl | rfl <;> (show _ = _; kernel_rfl)
theorem encRemove {k : Nat} (hk : k < 5) (args : Array Value) (w : World) : (callFunc (kRemove k) args).run Tryz.prog w = .ok (.enter (kRemove k) args) w := by
 have : k = 0 ∨ k = 1 ∨ k = 2 ∨ k = 3 ∨ k = 4 := by omega
 rcases this with rfl | rfl | rfl | rfl | rfl <;> (show _ = _; kernel_rfl)
def kEvict (k : Nat) : Nat := match k with | 0 => 291 | 1 => 339 | 2 => 368 | 3 => 392 | _ => 430
theorem enmEvict {k : Nat} (hk : k < 5) (a : Addr) (w : World) : (method 500 (kTy k) (.pointer (some a)) "Evict").run Tryz.prog w = .ok (kEvict k, .pointer (some a)) w := by
 have : k = 0 ∨ k = 1 ∨ k = 2 ∨ k = 3 ∨ k = 4 := by omega
 rcases this with rfl | rfl | rfl | rfl | rfl <;> (show _ = _; kernel_rfl)
theorem encEvict {k : Nat} (hk : k < 5) (args : Array Value) (w : World) : (callFunc (kEvict k) args).run Tryz.prog w = .ok (.enter (kEvict k) args) w := by
 have : k = 0 ∨ k = 1 ∨ k = 2 ∨ k = 3 ∨ k = 4 := by omega
 rcases this with rfl | rfl | rfl | rfl | rfl <;> (show _ = _; kernel_rfl)
def kHas (k : Nat) : Nat := match k with | 0 => 293 | 1 => 341 | 2 => 370 | 3 => 394 | _ => 432
theorem enmHas {k : Nat} (hk : k < 5) (a : Addr) (w : World) : (method 500 (kTy k) (.pointer (some a)) "Has").run Tryz.prog w = .ok (kHas k, .pointer (some a)) w := by
 have : k = 0 ∨ k = 1 ∨ k = 2 ∨ k = 3 ∨ k = 4 := by omega
 rcases this with rfl | rfl | rfl | rfl | rfl <;> (show _ = _; kernel_rfl)
theorem encHas {k : Nat} (hk : k < 5) (args : Array Value) (w : World) : (callFunc (kHas k) args).run Tryz.prog w = .ok (.enter (kHas k) args) w := by
 have : k = 0 ∨ k = 1 ∨ k = 2 ∨ k = 3 ∨ k = 4 := by omega
 rcases this with rfl | rfl | rfl | rfl | rfl <;> (show _ = _; kernel_rfl)
def kLen (k : Nat) : Nat := match k with | 0 => 295 | 1 => 343 | 2 => 372 | 3 => 396 | _ => 434
theorem enmLen {k : Nat} (hk : k < 5) (a : Addr) (w : World) : (method 500 (kTy k) (.pointer (some a)) "Len").run Tryz.prog w = .ok (kLen k, .pointer (some a)) w := by
 have : k = 0 ∨ k = 1 ∨ k = 2 ∨ k = 3 ∨ k = 4 := by omega
 rcases this with rfl | rfl | rfl | rfl | rfl <;> (show _ = _; kernel_rfl)
theorem encLen {k : Nat} (hk : k < 5) (args : Array Value) (w : World) : (callFunc (kLen k) args).run Tryz.prog w = .ok (.enter (kLen k) args) w := by
 have : k = 0 ∨ k = 1 ∨ k = 2 ∨ k = 3 ∨ k = 4 := by omega
 rcases this with rfl | rfl | rfl | rfl | rfl <;> (show _ = _; kernel_rfl)
def kRoom (k : Nat) : Nat := match k with | 0 => 298 | 1 => 346 | 2 => 375 | 3 => 399 | _ => 437
theorem enmRoom {k : Nat} (hk : k < 5) (a : Addr) (w : World) : (method 500 (kTy k) (.pointer (some a)) "Room").run Tryz.prog w = .ok (kRoom k, .pointer (some a)) w := by
 have : k = 0 ∨ k = 1 ∨ k = 2 ∨ k = 3 ∨ k = 4 := by omega
 rcases this with rfl | rfl | rfl | rfl | rfl <;> (show _ = _; kernel_rfl)
theorem encRoom {k : Nat} (hk : k < 5) (args : Array Value) (w : World) : (callFunc (kRoom k) args).run Tryz.prog w = .ok (.enter (kRoom k) args) w := by
 have : k = 0 ∨ k = 1 ∨ k = 2 ∨ k = 3 ∨ k = 4 := by omega
 rcases this with rfl | rfl | rfl | rfl | rfl <;> (show _ = _; kernel_rfl)
def kKeys (k : Nat) : Nat := match k with | 0 => 294 | 1 => 342 | 2 => 371 | 3 => 395 | _ => 433
theorem enmKeys {k : Nat} (hk : k < 5) (a : Addr) (w : World) : (method 500 (kTy k) (.pointer (some a)) "Keys").run Tryz.prog w = .ok (kKeys k, .pointer (some a)) w := by
 have : k = 0 ∨ k = 1 ∨ k = 2 ∨ k = 3 ∨ k = 4 := by omega
 rcases this with rfl | rfl | rfl | rfl | rfl <;> (show _ = _; kernel_rfl)
theorem encKeys {k : Nat} (hk : k < 5) (args : Array Value) (w : World) : (callFunc (kKeys k) args).run Tryz.prog w = .ok (.enter (kKeys k) args) w := by
 have : k = 0 ∨ k = 1 ∨ k = 2 ∨ k = 3 ∨ k = 4 := by omega
 rcases this with rfl | rfl | rfl | rfl | rfl <;> (show _ = _; kernel_rfl)
def kState (k : Nat) : Nat := match k with | 0 => 299 | 1 => 347 | 2 => 376 | 3 => 400 | _ => 438
theorem enmState {k : Nat} (hk : k < 5) (a : Addr) (w : World) : (method 500 (kTy k) (.pointer (some a)) "State").run Tryz.prog w = .ok (kState k, .pointer (some a)) w := by
 have : k = 0 ∨ k = 1 ∨ k = 2 ∨ k = 3 ∨ k = 4 := by omega
 rcases this with rfl | rfl | rfl | rfl | rfl <;> (show _ = _; kernel_rfl)
theorem encState {k : Nat} (hk : k < 5) (args : Array Value) (w : World) : (callFunc (kState k) args).run Tryz.prog w = .ok (.enter (kState k) args) w := by
 have : k = 0 ∨ k = 1 ∨ k = 2 ∨ k = 3 ∨ k = 4 := by omega
 rcases this with rfl | rfl | rfl | rfl | rfl <;> (show _ = _; kernel_rfl)
section
variable {w : World} {e : Nat} {F : List Nat} {s : En}
theorem enLoad (h : EE w e F s) (key : ByteArray) (hk : key.size ≤ maxLen) : Calls Tryz.prog (kLoad s.kd) #[ptr e, .string key] w (StepRet EE w e F (.bool (s.load key).1) (s.load key).2) := by
 cases s
 ·exact aload h key hk
 ·exact lload h key hk
 ·exact qload h key hk
 ·exact uload h key hk
 ·exact sload h key hk
theorem enRemove (h : EE w e F s) (key : ByteArray) (hk : key.size ≤ maxLen) : Calls Tryz.prog (kRemove s.kd) #[ptr e, .string key] w (StepRet EE w e F (.bool (s.remove key).1) (s.remove key).2) := by
 cases s
 ·exact aremove h key hk
 ·exact lremove h key hk
 ·exact qremove h key hk
 ·exact uremove h key hk
 ·exact sremove h key hk
theorem enEvict (h : EE w e F s) : Calls Tryz.prog (kEvict s.kd) #[ptr e] w (StepRet EE w e F (.tuple #[.string s.evict.1, .bool s.evict.2.1]) s.evict.2.2) := by
 cases s
 ·exact aevict h
 ·exact levictE h
 ·exact qevictE h
 ·exact uevict h
 ·exact sevictE h
theorem enHas (h : EE w e F s) (key : ByteArray) (hk : key.size ≤ maxLen) : Calls Tryz.prog (kHas s.kd) #[ptr e, .string key] w fun en w' => en = .returned (.bool (s.has key)) ∧ Fr [] w w' := by
 cases s with
 | A s => obtain ⟨hi, g, cap, x, h⟩ := h; exact ehasA h key hk rfl
 | L s => obtain ⟨hi, u, rfl, hc, hm, h⟩ := h; exact lhas h hi.si key hk rfl
 | Q s => obtain ⟨hi, g, cap, x, h⟩ := h; exact ehasQ h key hk rfl
 | U s => obtain ⟨hi, u, rfl, hc, hwi, hma, hpr, h⟩ := h; obtain ⟨F0, h0⟩ := h.er; exact ehasU h0 key hk rfl
 | S s => obtain ⟨hi, g, cap, x, y, h⟩ := h; obtain ⟨F0, h0⟩ := h.er; exact ehasS h0 key hk rfl
theorem enLen (h : EE w e F s) : Calls Tryz.prog (kLen s.kd) #[ptr e] w fun en w' => en = .returned (.int .i64 (s.len : Nat)) ∧ Fr [] w w' := by
 cases s with
 | A s => obtain ⟨hi, g, cap, x, h⟩ := h; exact elenA h rfl
 | L s => obtain ⟨hi, u, rfl, hc, hm, h⟩ := h; exact llen h (by have a := hi.si.len; have b := hi.res; have c := hi.gh; have d := hi.c2; omega) rfl
 | Q s => obtain ⟨hi, g, cap, x, h⟩ := h; exact elenQ h rfl
 | U s => obtain ⟨hi, u, rfl, hc, hwi, hma, hpr, h⟩ := h; obtain ⟨F0, h0⟩ := h.er; exact elenU h0 rfl
 | S s => obtain ⟨hi, g, cap, x, y, h⟩ := h; obtain ⟨F0, h0⟩ := h.er; exact elenS h0 rfl
theorem enRoom (h : EE w e F s) : Calls Tryz.prog (kRoom s.kd) #[ptr e] w fun en w' => en = .returned (.int .i64 (s.cap : Nat)) ∧ w = w' := by
 cases s with
 | A s => obtain ⟨hi, g, cap, x, h⟩ := h; exact eroomA h
 | L s => obtain ⟨hi, u, rfl, hc, hm, h⟩ := h; show Calls _ _ _ _ fun en w' => en = .returned (.int .i64 (s.c : Nat)) ∧ w = w'; rw [← hc]; exact lroom h
 | Q s => obtain ⟨hi, g, cap, x, h⟩ := h; exact eroomQ h
 | U s => obtain ⟨hi, u, rfl, hc, hwi, hma, hpr, h⟩ := h; obtain ⟨F0, h0⟩ := h.er; show Calls _ _ _ _ fun en w' => en = .returned (.int .i64 (s.c : Nat)) ∧ w = w'; rw [← hc]; exact eroomU h0
 | S s => obtain ⟨hi, g, cap, x, y, h⟩ := h; obtain ⟨F0, h0⟩ := h.er; exact eroomS h0
theorem enKeys (h : EE w e F s) : Calls Tryz.prog (kKeys s.kd) #[ptr e] w (KeysRet w s.keys) := by
 cases s with
 | A s => obtain ⟨hi, g, cap, x, h⟩ := h; exact eKeysA h
 | L s => exact lkeys h
 | Q s => obtain ⟨hi, g, cap, x, h⟩ := h; exact eKeysQ h
 | U s => obtain ⟨hi, u, rfl, hc, hwi, hma, hpr, h⟩ := h; obtain ⟨F0, h0⟩ := h.er; exact eKeysU h0
 | S s => obtain ⟨hi, g, cap, x, y, h⟩ := h; obtain ⟨F0, h0⟩ := h.er; exact eKeysS h0
end
end Go.Proofs.YtphlancijlljcaaGreat
