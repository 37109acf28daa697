/- The engine of whatever kind: one of five. -/
import Derived.Test.YtphlancijlljcaaGreatWent
set_option linter.unusedVariables false
set_option linter.unusedSimpArgs false
namespace Go.Proofs.YtphlancijlljcaaGreat
open Go.RowKit
attribute [local go_sem ↓] Go.wp_at_zero Go.wp_at_succ
inductive En where
 | A (s : Arc)
 | L (s : Lirs)
 | Q (s : Twoq)
 | U (s : Tiny)
 | S (s : S3)
namespace En
/-- Its kind. -/
def kd : En → Nat | A _ => 0 | L _ => 1 | Q _ => 2 | U _ => 3 | S _ => 4
def lift {α : Type} (f : α → En) (r : Bool × List ByteArray × α) : Bool × List ByteArray × En := (r.1, r.2.1, f r.2.2)
def access : En → ByteArray → Bool × List ByteArray × En
 | A s, k => lift A (s.access k) | L s, k => lift L (s.access k) | Q s, k => lift Q (s.access k) | U s, k => lift U (s.access k) | S s, k => lift S (s.access k)
def new (k : Nat) (room : Int) : En := match k with | 0 => A (Arc.new room) | 1 => L (Lirs.new room) | 2 => Q (Twoq.new room) | 3 => U (Tiny.new room) | _ => S (S3.new room)
theorem kd_lt (s : En) : s.kd < 5 := by cases s <;> simp [kd]
theorem access_kd (s : En) (key : ByteArray) : (s.access key).2.2.kd = s.kd := by cases s <;> rfl
end En
/-- The numbers of a kind's type and functions. -/
def kTy (k : Nat) : TypeId := match k with | 0 => 136 | 1 => 138 | 2 => 140 | 3 => 142 | _ => 144
def kAccess (k : Nat) : Nat := match k with | 0 => 290 | 1 => 338 | 2 => 367 | 3 => 391 | _ => 429
/-- The call through the interface finds it. -/
theorem enmAccess {k : Nat} (hk : k < 5) (a : Addr) (w : World) : (method 500 (kTy k) (.pointer (some a)) "Access").run Tryz.prog w = .ok (kAccess k, .pointer (some a)) w := by
 have : k = 0 ∨ k = 1 ∨ k = 2 ∨ k = 3 ∨ k = 4 := by omega
 rcases this with rfl | rfl | rfl | rfl | rfl <;> (show _ = _; kernel_rfl)
theorem encAccess {k : Nat} (hk : k < 5) (args : Array Value) (w : World) : (callFunc (kAccess k) args).run Tryz.prog w = .ok (.enter (kAccess k) args) w := by
 have : k = 0 ∨ k = 1 ∨ k = 2 ∨ k = 3 ∨ k = 4 := by omega
 rcases this with rfl | rfl | rfl | rfl | rfl <;> (show _ = _; kernel_rfl)
def EE (w : World) (e : Nat) (F : List Nat) : En → Prop
 | .A s => EArc w e F s | .L s => EL w e F s | .Q s => EQ w e F s | .U s => EU w e F s | .S s => ES w e F s
section
variable {w w' : World} {e : Nat} {F G : List Nat} {s : En}
theorem EE.fr (h : EE w e F s) (f : Fr G w w') (hd : Dis F G) : EE w' e F s := by
 cases s
 ·exact EArc.fr h f hd
 ·exact EL.fr h f hd
 ·exact EQ.fr h f hd
 ·exact EU.fr h f hd
 ·exact ES.fr h f hd
theorem EE.lt (h : EE w e F s) : Lt F w := by
 cases s
 ·exact EArc.lt h
 ·exact EL.lt h
 ·exact EQ.lt h
 ·exact EU.lt h
 ·exact ES.lt h
theorem EE.went (h : EE w e F s) (key : ByteArray) (hk : key.size ≤ maxLen) : Went (s.access key).2.1 := by
 cases s
 ·exact Arc.Inv.went h.1 key hk
 ·exact Lirs.Inv.went h.1 key hk
 ·exact Twoq.Inv.went h.1 key hk
 ·exact Tiny.Inv.went h.1 key hk
 ·exact S3.Inv.went h.1 key hk
theorem enAccess (h : EE w e F s) (key : ByteArray) (hk : key.size ≤ maxLen) : Calls Tryz.prog (kAccess s.kd) #[.pointer (some ⟨e, 0, none⟩), .string key] w (AccRet EE w e F (s.access key)) := by
 cases s
 ·exact aaccess h key hk
 ·exact laccess h key hk
 ·exact qaccess h key hk
 ·exact uaccess h key hk
 ·exact saccess h key hk
end
def EnNew (w : World) (s : En) (en : Ending) (w' : World) : Prop := ∃ e F, en = .returned (.tuple #[.iface (kTy s.kd) (.pointer (some ⟨e, 0, none⟩)), .int .i64 0]) ∧ EE w' e F s ∧ Ge w.heap.size F ∧ Fr [] w w'
set_option maxRecDepth 100000 in
theorem ennewA (w : World) (room : Int) (h0 : -9223372036854775808 ≤ room) (h1 : room ≤ 9223372036854775807) :
  Calls Tryz.prog 48 #[.int .i64 0, .int .i64 room] w (EnNew w (En.new 0 room)) := by
 go_enter Tryz.func48, Tryz.ntmps48
 go_wp2_with fail
 refine (anew _ room h0 h1).mono ?_
 rintro en w1 ⟨e, F, rfl, he, hge, hf⟩
 have HE := Lib.hid (And.intro he (And.intro hge hf))
 clear he hge hf
 go_wp2
 go_ret2
 exact ⟨e, F, rfl, HE.out⟩
set_option maxRecDepth 100000 in
theorem ennewL (w : World) (room : Int) (h0 : -9223372036854775808 ≤ room) (h1 : room ≤ 9223372036854775807) :
  Calls Tryz.prog 48 #[.int .i64 1, .int .i64 room] w (EnNew w (En.new 1 room)) := by
 go_enter Tryz.func48, Tryz.ntmps48
 go_wp2_with fail
 refine (lnew _ room h0 h1).mono ?_
 rintro en w1 ⟨e, F, rfl, he, hge, hf⟩
 have HE := Lib.hid (And.intro he (And.intro hge hf))
 clear he hge hf
 go_wp2
 go_ret2
 exact ⟨e, F, rfl, HE.out⟩
set_option maxRecDepth 100000 in
theorem ennewQ (w : World) (room : Int) (h0 : -9223372036854775808 ≤ room) (h1 : room ≤ 9223372036854775807) :
  Calls Tryz.prog 48 #[.int .i64 2, .int .i64 room] w (EnNew w (En.new 2 room)) := by
 go_enter Tryz.func48, Tryz.ntmps48
 go_wp2_with fail
 refine (qnew _ room h0 h1).mono ?_
 rintro en w1 ⟨e, F, rfl, he, hge, hf⟩
 have HE := Lib.hid (And.intro he (And.intro hge hf))
 clear he hge hf
 go_wp2
 go_ret2
 exact ⟨e, F, rfl, HE.out⟩
set_option maxRecDepth 100000 in
theorem ennewU (w : World) (room : Int) (h0 : -9223372036854775808 ≤ room) (h1 : room ≤ 9223372036854775807) :
  Calls Tryz.prog 48 #[.int .i64 3, .int .i64 room] w (EnNew w (En.new 3 room)) := by
 go_enter Tryz.func48, Tryz.ntmps48
 go_wp2_with fail
 refine (unew _ room h0 h1).mono ?_
 rintro en w1 ⟨e, F, rfl, he, hge, hf⟩
 have HE := Lib.hid (And.intro he (And.intro hge hf))
 clear he hge hf
 go_wp2
 go_ret2
 exact ⟨e, F, rfl, HE.out⟩
set_option maxRecDepth 100000 in
theorem ennewS (w : World) (room : Int) (h0 : -9223372036854775808 ≤ room) (h1 : room ≤ 9223372036854775807) :
  Calls Tryz.prog 48 #[.int .i64 4, .int .i64 room] w (EnNew w (En.new 4 room)) := by
 go_enter Tryz.func48, Tryz.ntmps48
 go_wp2_with fail
 refine (snew _ room h0 h1).mono ?_
 rintro en w1 ⟨e, F, rfl, he, hge, hf⟩
 have HE := Lib.hid (And.intro he (And.intro hge hf))
 clear he hge hf
 go_wp2
 go_ret2
 exact ⟨e, F, rfl, HE.out⟩
theorem ennew (w : World) (k : Nat) (hk : k < 5) (room : Int) (h0 : -9223372036854775808 ≤ room) (h1 : room ≤ 9223372036854775807) : Calls Tryz.prog 48 #[.int .i64 k, .int .i64 room] w (EnNew w (En.new k room)) := by
 match k, hk with
 | 0, _ => exact ennewA w room h0 h1
 | 1, _ => exact ennewL w room h0 h1
 | 2, _ => exact ennewQ w room h0 h1
 | 3, _ => exact ennewU w room h0 h1
 | 4, _ => exact ennewS w room h0 h1
end Go.Proofs.YtphlancijlljcaaGreat
