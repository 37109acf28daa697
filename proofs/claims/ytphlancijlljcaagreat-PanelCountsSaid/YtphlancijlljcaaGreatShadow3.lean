/- Package shadow, walked: New, Epoch, Total, and what a nil Shadow answers. -/
import Derived.Test.YtphlancijlljcaaGreatShadow2
set_option linter.unusedVariables false
set_option linter.unusedSimpArgs false
namespace Go.Proofs.YtphlancijlljcaaGreat
open Go.RowKit
attribute [local go_sem ↓] Go.wp_at_zero Go.wp_at_succ
def Shd.new (kind : Int) (e : En) (room : Int) : Shd := ⟨kind, e, Gh.new room, Cts.zero, Cts.zero⟩
/-- What New hands back. -/
def ShNew (w : World) (s : Shd) (en : Ending) (w' : World) : Prop := ∃ p F, en = .returned (.tuple #[.pointer (some ⟨p, 0, none⟩), .int .i64 0]) ∧ ShRep w' p F s ∧ Ge w.heap.size F ∧ Fr [] w w'
theorem sh_new {s : En} {w w1 w2 : World} {e q : Nat} {Fe Fg : List Nat} {kind room : Int} (he : EE w1 e Fe s) (ge : Ge w.heap.size Fe) (f1 : Fr [] w w1) (hg : GhRep w2 q Fg (Gh.new room)) (gg : Ge w1.heap.size Fg) (f2 : Fr [] w1 w2) :
  ShNew w (Shd.new kind s room) (.returned (.tuple #[.pointer (some ⟨w2.heap.size, 0, none⟩), .int .i64 0])) (w2.alloc (.cells #[.int .i64 kind, .iface (kTy s.kd) (.pointer (some ⟨e, 0, none⟩)), .pointer (some ⟨q, 0, none⟩), .int .i64 0, .int .i64 0, .int .i64 0, .int .i64 0, .int .i64 0, .int .i64 0] 106)) := by
 have hel := he.lt
 have hgl := hg.lt
 have z1 := f1.size
 have z2 := f2.size
 have ha := fun o => (Fr.refl [] w2).alloc o
 refine ⟨w2.heap.size, w2.heap.size :: (Fe ++ Fg), rfl, ⟨e, q, Fe, Fg, rfl, fun h => ?_, fun h => ?_, fun b h1 h2 => ?_, block_alloc_new _ _, (he.fr f2 (fun b _ => by simp)).fr (ha _) (fun b _ => by simp), hg.fr0 (ha _), Gh.Inv.new room⟩, ?_, (f1.same f2).same (ha _)⟩
 ·have := hel _ h; omega
 ·have := hgl _ h; omega
 ·have := hel _ h1; have := gg _ h2; omega
 ·intro b hb
  simp at hb
  rcases hb with rfl | hb | hb
  ·omega
  ·exact ge b hb
  ·have := gg b hb; omega
set_option maxRecDepth 100000 in
theorem shnew (w : World) (k : Nat) (hk : k < 5) (room : Int) (h0 : -9223372036854775808 ≤ room) (h1 : room ≤ 9223372036854775807) :
  Calls Tryz.prog 16 #[.int .i64 k, .int .i64 room] w (ShNew w (Shd.new k (En.new k room) room)) := by
 obtain ⟨s, hs⟩ : ∃ s, En.new k room = s := ⟨_, rfl⟩
 have HN := Lib.hid fun W => hs ▸ ennew W k hk room h0 h1
 rw [hs]
 clear hs
 go_enter Tryz.func16, Tryz.ntmps16
 go_wp2_with fail
 refine (HN.out _).mono ?_
 rintro en w1 ⟨e, Fe, rfl, he, hge, hf⟩
 have HE := Lib.hid (And.intro he (And.intro hge hf))
 clear he hge hf
 go_wp2_with fail
 refine (gnew _ room h0 h1).mono ?_
 rintro en w2 ⟨q, Fg, rfl, hg, hgg, hf⟩
 have HG := Lib.hid (And.intro hg (And.intro hgg hf))
 clear hg hgg hf
 go_wp2
 go_ret2
 exact sh_new HE.out.1 HE.out.2.1 HE.out.2.2 HG.out.1 HG.out.2.1 HG.out.2.2
def Cts.val (c : Cts) : Value := .agg #[.int .i64 c.all, .int .i64 c.hits, .int .i64 c.ghosts]
section
variable {w : World} {p q : Nat} {kind : Int} {v : Value} {a b : Cts}
theorem shtotal (H : ShB w p kind v q a b) : Calls Tryz.prog 19 #[.pointer (some ⟨p, 0, none⟩)] w fun en w' => en = .returned b.val ∧ Fr [] w w' := by
 obtain ⟨_, _, _, _, _, _, b3, b4, b5⟩ := H.cell
 have hl := lt_of_block H
 clear H
 obtain ⟨x, y, z⟩ := b
 simp only at b3 b4 b5
 have HF := Lib.hid (Fr.refl [] w)
 go_enter Tryz.func19, Tryz.ntmps19
 go_wp2
 refine bodyPost_ret (v := .agg #[.int .i64 (x : Nat), .int .i64 (y : Nat), .int .i64 (z : Nat)]) (by simp [results, Tryz.results19, go_sem]) rfl ?_
 refine ⟨rfl, ?_⟩
 exact HF.out.alloc _
set_option maxRecDepth 100000 in
theorem shepoch (H : ShB w p kind v q a b) : Calls Tryz.prog 17 #[.pointer (some ⟨p, 0, none⟩)] w fun en w' => en = .returned a.val ∧ ShB w' p kind v q Cts.zero b ∧ Fr [p] w w' := by
 obtain ⟨_, _, _, a3, a4, a5, _, _, _⟩ := H.cell
 have z := fun i => free_of_block H i
 have hl := lt_of_block H
 have hb3 := block_set_same (block_set_same (block_set_same H 3 (.int .i64 0)) 4 (.int .i64 0)) 5 (.int .i64 0)
 have hf3 := (((Fr.refl [p] w).setCell (p := ⟨p, 3, none⟩) (by simp) (.int .i64 0)).setCell (p := ⟨p, 4, none⟩) (by simp) (.int .i64 0)).setCell (p := ⟨p, 5, none⟩) (by simp) (.int .i64 0)
 have HH := Lib.hid (And.intro hb3 hf3)
 clear H hb3 hf3
 obtain ⟨x, y, t⟩ := a
 simp only at a3 a4 a5
 go_enter Tryz.func17, Tryz.ntmps17
 go_wp2
 refine bodyPost_ret (v := .agg #[.int .i64 (x : Nat), .int .i64 (y : Nat), .int .i64 (t : Nat)]) (by simp [results, Tryz.results17, go_sem]) rfl ?_
 refine ⟨rfl, block_alloc_old (block_alloc_old (HH.out.1.trans rfl) _) _, (HH.out.2.alloc _).alloc _⟩
end
theorem shaccess_nil (key : ByteArray) (w : World) : Calls Tryz.prog 18 #[.pointer none, .string key] w fun en w' => en = .returned (.bool false) ∧ w = w' := by
 go_enter Tryz.func18, Tryz.ntmps18
 go_wp2
 go_ret
 exact ⟨rfl, rfl⟩
theorem shkind_nil (w : World) : Calls Tryz.prog 25 #[.pointer none] w fun en w' => en = .returned (.int .i64 (-1)) ∧ w = w' := by
 go_enter Tryz.func25, Tryz.ntmps25
 go_wp2
 go_ret
 exact ⟨rfl, rfl⟩
theorem shstate_nil (w : World) : Calls Tryz.prog 36 #[.pointer none] w fun en w' => en = .returned (.string ⟨#[]⟩) ∧ w = w' := by
 go_enter Tryz.func36, Tryz.ntmps36
 go_wp2
 go_ret
 exact ⟨rfl, rfl⟩
theorem shhist_nil (w : World) : Calls Tryz.prog 37 #[.pointer none] w fun en w' => en = .returned (.slice none 0 0) ∧ w = w' := by
 go_enter Tryz.func37, Tryz.ntmps37
 go_wp2
 go_ret
 exact ⟨rfl, rfl⟩
theorem shEpoch_nil (w : World) : Calls Tryz.prog 17 #[.pointer none] w fun en w' => en = .returned Cts.zero.val ∧ Fr [] w w' := by
 have HF := Lib.hid (Fr.refl [] w)
 go_enter Tryz.func17, Tryz.ntmps17
 go_wp2
 refine bodyPost_ret (v := .agg #[.int .i64 0, .int .i64 0, .int .i64 0]) (by simp [results, Tryz.results17, go_sem]) rfl ?_
 exact ⟨rfl, HF.out.alloc _⟩
theorem shTotal_nil (w : World) : Calls Tryz.prog 19 #[.pointer none] w fun en w' => en = .returned Cts.zero.val ∧ Fr [] w w' := by
 have HF := Lib.hid (Fr.refl [] w)
 go_enter Tryz.func19, Tryz.ntmps19
 go_wp2
 refine bodyPost_ret (v := .agg #[.int .i64 0, .int .i64 0, .int .i64 0]) (by simp [results, Tryz.results19, go_sem]) rfl ?_
 exact ⟨rfl, HF.out.alloc _⟩
end Go.Proofs.YtphlancijlljcaaGreat
