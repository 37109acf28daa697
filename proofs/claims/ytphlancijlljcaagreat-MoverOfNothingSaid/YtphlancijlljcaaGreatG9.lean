/- Package ghost, walked: keys that went, the oldest first, and where each stands; package fix's Clamp, Inc. -/
import Derived.Test.YtphlancijlljcaaGreatG1
import Derived.Test.YtphlancijlljcaaGreatRws
import Derived.Test.YtphlancijlljcaaGreatArc5
set_option linter.unusedVariables false
set_option linter.unusedSimpArgs false
namespace Go.Proofs.YtphlancijlljcaaGreat
open Go.RowKit
attribute [local go_sem ↓] Go.wp_at_zero Go.wp_at_succ
theorem fixClamp (a lo hi : Int) (ha : -9223372036854775808 ≤ a) (ha2 : a ≤ 9223372036854775807) (hl : 0 ≤ lo) (hh : hi ≤ 9223372036854775807) (hlh : lo ≤ hi) (w : World) :
  Calls Tryz.prog 127 #[.int .i64 a, .int .i64 lo, .int .i64 hi] w fun e w' => e = .returned (.int .i64 (min (max a lo) hi)) ∧ w = w' := by
 have h3 : a < lo ∨ (lo ≤ a ∧ a ≤ hi) ∨ hi < a := by omega
 rcases h3 with h | ⟨h, h'⟩ | h
 ·have e : min (max a lo) hi = lo := by omega
  rw [e]
  clear e
  have h5 : ¬ hi < lo := by omega
  go_enter Tryz.func127, Tryz.ntmps127
  go_wp2
  go_ret
  exact ⟨rfl, rfl⟩
 ·have e : min (max a lo) hi = a := by omega
  rw [e]
  clear e
  go_enter Tryz.func127, Tryz.ntmps127
  go_wp2
  all_goals
   go_ret
   exact ⟨rfl, rfl⟩
 ·have e : min (max a lo) hi = hi := by omega
  rw [e]
  clear e
  have h5 : lo < a ∨ lo = a := by omega
  go_enter Tryz.func127, Tryz.ntmps127
  go_wp2
  all_goals
   go_ret
   exact ⟨rfl, rfl⟩
theorem fixIncI (a m : Int) (ha : 0 ≤ a) (hm : m ≤ 9223372036854775807) (w : World) :
  Calls Tryz.prog 132 #[.int .i64 a, .int .i64 m] w fun e w' => e = .returned (.int .i64 (if m ≤ a then a else a + 1)) ∧ w = w' := by
 by_cases h : m ≤ a
 ·rw [if_pos h]
  go_enter Tryz.func132, Tryz.ntmps132
  go_wp2
  go_ret
  exact ⟨rfl, rfl⟩
 ·rw [if_neg h]
  have h2 : a < m := by omega
  go_enter Tryz.func132, Tryz.ntmps132
  go_wp2
  go_ret
  exact ⟨rfl, rfl⟩
/-- Keys that went. -/
structure Gh where
 L : List ByteArray
 room : Nat
def Gh.take (g : Gh) (key : ByteArray) : Gh := { g with L := cutQ g.L key }
def Gh.add (g : Gh) (key : ByteArray) : Gh := { g with L := if (cutQ g.L key ++ [key]).length ≤ g.room then cutQ g.L key ++ [key] else (cutQ g.L key ++ [key]).tail }
structure Gh.Inv (g : Gh) : Prop where
 nd : g.L.Nodup
 sz : ∀ k, k ∈ g.L → k.size ≤ maxLen
 r1 : 1 ≤ g.room
 r2 : g.room ≤ 1024
 le : g.L.length ≤ g.room
/-- A list of keys, and an index of where each stands. -/
structure GAt (w : World) (l x : Nat) (Fl Fx : List Nat) (L : List (Nat × ByteArray)) (M : ByteArray → Option Nat) (n : Nat) : Prop where
 lst : LRep w l Fl L
 idx : IRepI w x Fx M n
 d : Dis Fl Fx
 nd : (L.map (·.2)).Nodup
 sz : ∀ k, k ∈ L.map (·.2) → k.size ≤ maxLen
 co : ∀ k h, M k = some h ↔ (h, k) ∈ L
 le : n ≤ L.length
def GhB (w : World) (p room l x : Nat) : Prop := w.heap[p]? = some (.cells #[.int .i64 room, .pointer (some ⟨l, 0, none⟩), .pointer (some ⟨x, 0, none⟩)] 162 (0, 0))
def GhRep (w : World) (p : Nat) (F : List Nat) (g : Gh) : Prop :=
 ∃ l x Fl Fx L M n, F = p :: (Fl ++ Fx) ∧ p ∉ Fl ∧ p ∉ Fx ∧ GhB w p g.room l x ∧ GAt w l x Fl Fx L M n ∧ L.map (·.2) = g.L
def GhGo (w : World) (p : Nat) (F : List Nat) (g : Gh) (w' : World) : Prop := ∃ F', GhRep w' p F' g ∧ Sub F' F w ∧ Fr F w w'
section
variable {w w' w0 w1 w2 : World} {p l x n : Nat} {F F1 Fl Fx G : List Nat} {L : List (Nat × ByteArray)} {M : ByteArray → Option Nat} {g : Gh}
theorem GAt.fr (h : GAt w l x Fl Fx L M n) (f : Fr G w w') (h1 : Dis Fl G) (h2 : Dis Fx G) : GAt w' l x Fl Fx L M n :=
 ⟨h.lst.fr f h1, h.idx.fr f h2, h.d, h.nd, h.sz, h.co, h.le⟩
theorem GAt.nop (h : GAt w l x Fl Fx L M n) (k : ByteArray) : M k = none ↔ k ∉ L.map (·.2) := by
 constructor
 ·intro hn hk
  obtain ⟨e, he, rfl⟩ := List.mem_map.1 hk
  have := (h.co e.2 e.1).2 he
  rw [hn] at this; cases this
 ·intro hk
  cases hM : M k with
  | none => rfl
  | some i => exact absurd (List.mem_map_of_mem (f := (·.2)) ((h.co k i).1 hM)) hk
theorem GhRep.fr (h : GhRep w p F g) (f : Fr G w w') (hd : Dis F G) : GhRep w' p F g := by
 obtain ⟨l, x, Fl, Fx, L, M, n, rfl, h1, h2, h3, h4, h5⟩ := h
 exact ⟨l, x, Fl, Fx, L, M, n, rfl, h1, h2, f.get h3 (hd p (by simp)), h4.fr f (fun b hb => hd b (by simp [hb])) (fun b hb => hd b (by simp [hb])), h5⟩
theorem GhRep.fr0 (h : GhRep w p F g) (f : Fr [] w w') : GhRep w' p F g := h.fr f (fun b _ => by simp)
theorem GhRep.lt (h : GhRep w p F g) : Lt F w := by
 obtain ⟨l, x, Fl, Fx, L, M, n, rfl, h1, h2, h3, h4, h5⟩ := h
 intro b hb
 simp at hb
 rcases hb with rfl | hb | hb
 ·exact lt_of_block h3
 ·exact h4.lst.lt b hb
 ·exact h4.idx.lt b hb
theorem GhGo.refl (h : GhRep w p F g) : GhGo w p F g w := ⟨F, h, Sub.refl _ _, Fr.refl _ _⟩
theorem GhGo.trans (h1 : Sub F1 F w) (h2 : Fr F w w1) (h : GhGo w1 p F1 g w2) : GhGo w p F g w2 := by
 obtain ⟨F', a1, a2, a3⟩ := h
 exact ⟨F', a1, h1.fr h2 a2, h2.via h1 a3⟩
theorem GhGo.fr (h : GhGo w p F g w1) (f : Fr [] w1 w2) : GhGo w p F g w2 := by
 obtain ⟨F', h1, h2, h3⟩ := h
 exact ⟨F', h1.fr0 f, h2, h3.same f.nil⟩
theorem GhGo.old (h : GhGo w p F g w1) (f : Fr [] w0 w) : GhGo w0 p F g w1 := by
 obtain ⟨F', h1, h2, h3⟩ := h
 exact ⟨F', h1, h2.old f.size, f.nil.same h3⟩
theorem GhB.cells (h : GhB w p n l x) : w.cell? ⟨p, 0, none⟩ = some (.int .i64 n) ∧ w.cell? ⟨p, 1, none⟩ = some (.pointer (some ⟨l, 0, none⟩)) ∧ w.cell? ⟨p, 2, none⟩ = some (.pointer (some ⟨x, 0, none⟩)) :=
 ⟨(cell_of_block h 0).trans rfl, (cell_of_block h 1).trans rfl, (cell_of_block h 2).trans rfl⟩
end
theorem cutQ_map {L1 L2 : List (Nat × ByteArray)} {h : Nat} {key : ByteArray} (hn : ((L1 ++ (h, key) :: L2).map (·.2)).Nodup) : cutQ ((L1 ++ (h, key) :: L2).map (·.2)) key = (L1 ++ L2).map (·.2) := by
 simp only [List.map_append, List.map_cons] at hn ⊢
 rw [List.nodup_append] at hn
 obtain ⟨n1, n2, n3⟩ := hn
 have n4 := List.nodup_cons.1 n2
 unfold cutQ
 rw [List.filter_append, List.filter_cons_of_neg (by simp)]
 congr 1
 ·rw [List.filter_eq_self]
  intro a ha
  simpa using fun e => n3 a ha key (by simp) e
 ·rw [List.filter_eq_self]
  intro a ha
  have : a ≠ key := fun e => n4.1 (e ▸ ha)
  simpa using this
theorem GAt.del {w w1 w2 : World} {l x n : Nat} {Fl Fx Fl2 : List Nat} {L1 L2 : List (Nat × ByteArray)} {M : ByteArray → Option Nat} {h : Nat} {key : ByteArray}
  (H : GAt w l x Fl Fx (L1 ++ (h, key) :: L2) M n) (hd : DelRetI w x n Fx M key w1) (hl : LRep w2 l Fl2 (L1 ++ L2)) (hs : Sub Fl2 Fl w1) (hf : Fr Fl w1 w2) (hlt : Lt Fx w1) : GAt w2 l x Fl2 Fx (L1 ++ L2) (upM M key none) (n - 1) := by
 obtain ⟨lst, idx, d, nd, sz, co, le⟩ := H
 have hsub : List.Sublist (L1 ++ L2) (L1 ++ (h, key) :: L2) := (List.Sublist.refl L1).append (List.sublist_cons_self _ _)
 have hMk : M key = some h := (co key h).2 (by simp)
 have e1 : nDel M key n = n - 1 := by simp [nDel, hMk]
 obtain ⟨hd1, hd2⟩ := hd
 rw [e1] at hd1
 refine ⟨hl, hd1.fr hf d.symm, d.sub hs hlt, nd.sublist (hsub.map _), fun k hk => sz k ((hsub.map _).subset hk), fun k i => ?_, by simp at le ⊢; omega⟩
 unfold upM
 by_cases e : k = key
 ·subst e
  rw [if_pos rfl]
  constructor
  ·intro h; cases h
  ·intro hm
   simp only [List.map_append, List.map_cons] at nd
   have := (List.nodup_cons.1 (List.nodup_append.1 nd).2.1).1
   have n3 := (List.nodup_append.1 nd).2.2
   rcases List.mem_append.1 hm with hm | hm
   ·exact absurd rfl (n3 k (List.mem_map_of_mem (f := (·.2)) hm) k (by simp))
   ·exact absurd (List.mem_map_of_mem (f := (·.2)) hm) this
 ·rw [if_neg e, co]
  simp only [List.mem_append, List.mem_cons]
  constructor
  ·rintro (h | h | h)
   ·exact .inl h
   ·cases h; exact absurd rfl e
   ·exact .inr h
  ·rintro (h | h)
   ·exact .inl h
   ·exact .inr (.inr h)
section
variable {w : World} {p : Nat} {F : List Nat} {g : Gh}
set_option maxRecDepth 100000 in
theorem gtake (H : GhRep w p F g) (hl : g.L.length ≤ 80000) (key : ByteArray) (hk : key.size ≤ maxLen) {b : Bool} (hb : decide (key ∈ g.L) = b) :
  Calls Tryz.prog 75 #[.pointer (some ⟨p, 0, none⟩), .string key] w fun en w' => en = .returned (.bool b) ∧ GhGo w p F (g.take key) w' := by
 have hlt := H.lt
 obtain ⟨l, x, Fl, Fx, L, M, n, rfl, h1, h2, h3, h4, h5⟩ := H
 obtain ⟨k0, k1, k2⟩ := h3.cells
 have hn : n ≤ 90000 := by have := h4.le; rw [← h5] at hl; simp at hl; omega
 cases hM : M key with
 | none =>
  have hno := (h4.nop key).1 hM
  rw [h5] at hno
  have hb0 : b = false := by rw [← hb]; exact decide_eq_false hno
  subst hb0
  have HD := Lib.hid (idelI_none h4.idx key hk hM)
  have hfin : ∀ w1 w2 : World, DelRetI w x n Fx M key w1 → Fr [] w1 w2 → GhGo w p (p :: (Fl ++ Fx)) (g.take key) w2 := by
   intro w1 w2 ⟨hi, hf⟩ h6
   have e2 : upM M key none = M := by funext k; unfold upM; split; rename_i h; rw [h, hM]; rfl
   have e3 : nDel M key n = n := by simp [nDel, hM]
   rw [e2, e3] at hi
   have e4 : (g.take key).L = g.L := cutQ_not hno
   refine ⟨_, ⟨l, x, Fl, Fx, L, M, n, rfl, h1, h2, h6.get (hf.get h3 h2) (by simp), ⟨(h4.lst.fr hf h4.d).fr h6 (fun b _ => by simp), hi.fr h6 (fun b _ => by simp), h4.d, h4.nd, h4.sz, h4.co, h4.le⟩, by rw [e4]; exact h5⟩, Sub.refl _ _, (hf.mono (by intro b hb _; simp [hb])).same h6.nil⟩
  have HF := Lib.hid hfin
  clear hfin h1 h2 h3 h4 h5 hlt hno hb hM
  go_enter Tryz.func75, Tryz.ntmps75
  go_wp2_with fail
  refine HD.out.mono ?_
  rintro e w1 ⟨rfl, hdr⟩
  go_wp2
  go_ret
  exact ⟨rfl, HF.out w1 _ hdr (Fr.refl _ _)⟩
 | some h =>
  have hmem := (h4.co key h).1 hM
  obtain ⟨L1, L2, hL⟩ := mem_split hmem
  have hb1 : b = true := by rw [← hb, decide_eq_true_iff, ← h5]; exact List.mem_map_of_mem (f := (·.2)) hmem
  subst hb1
  subst hL
  have HD := Lib.hid (idelI h4.idx hn key hk hM)
  have hxl : Lt Fx w := h4.idx.lt
  have hr := Lib.hid fun (w1 : World) (k : Fr Fx w w1) => remove_in (h4.lst.fr k h4.d)
  have hfin : ∀ w1 w2 : World, DelRetI w x n Fx M key w1 → (∃ F', LRep w2 l F' (L1 ++ L2) ∧ Sub F' Fl w1 ∧ Fr Fl w1 w2) → GhGo w p (p :: (Fl ++ Fx)) (g.take key) w2 := by
   rintro w1 w2 hd ⟨F', a1, a2, a3⟩
   have e4 : (g.take key).L = (L1 ++ L2).map (·.2) := by
    show cutQ g.L key = _
    rw [← h5]; exact cutQ_map h4.nd
   have hf1 := hd.2
   have hs1 := hf1.size
   have hp : p < w.heap.size := hlt p (by simp)
   refine ⟨p :: (F' ++ Fx), ⟨l, x, F', Fx, _, _, _, rfl, fun hb => ?_, h2, a3.get (hf1.get h3 h2) h1, h4.del hd a1 a2 a3 (hxl.fr hf1), e4.symm⟩, ?_, ?_⟩
   ·rcases a2 p hb with h | h
    ·exact h1 h
    ·omega
   ·intro b hb
    simp at hb
    rcases hb with rfl | hb | hb
    ·exact .inl (by simp)
    ·rcases a2 b hb with h | h
     ·exact .inl (by simp [h])
     ·right; omega
    ·exact .inl (by simp [hb])
   ·exact (hf1.mono (by intro b hb _; simp [hb])).same (a3.mono (by intro b hb _; simp [hb]))
  have HF := Lib.hid hfin
  have hpx : p ∉ Fx := h2
  have hHL := (h4.lst).hnd (h, key) (by simp)
  simp at hHL
  clear hfin h1 h2 h3 h4 h5 hlt hb hM hmem hl hn
  go_enter Tryz.func75, Tryz.ntmps75
  go_wp2_with fail
  refine HD.out.mono ?_
  rintro e w1 ⟨rfl, hdr⟩
  have hf1 := hdr.2
  have k1 := cell_fr hf1 k1 hpx
  have HX := Lib.hid hdr
  have HR := Lib.hid (hr.out w1 hf1)
  clear hdr hf1 hr k2 k0
  go_wp2_with fail
  refine HR.out.mono ?_
  rintro e w2 ⟨rfl, hg⟩
  have HG := Lib.hid (HF.out _ _ HX.out hg)
  clear hg
  go_wp2
  go_ret
  exact ⟨rfl, HG.out⟩
end
end Go.Proofs.YtphlancijlljcaaGreat

set_option linter.unusedVariables false
set_option linter.unusedSimpArgs false
namespace Go.Proofs.YtphlancijlljcaaGreat
open Go.RowKit
attribute [local go_sem ↓] Go.wp_at_zero Go.wp_at_succ
theorem GAt.push {w w1 w2 : World} {l x n : Nat} {Fl Fx Fl2 Fx2 : List Nat} {L : List (Nat × ByteArray)} {M : ByteArray → Option Nat} {h : Nat} {key : ByteArray}
  (H : GAt w l x Fl Fx L M n) (hk : key ∉ L.map (·.2)) (hz : key.size ≤ maxLen) (hl : LRep w1 l Fl2 (L ++ [(h, key)])) (hs : Sub Fl2 Fl w) (hf : Fr Fl w w1)
  (hi : IRepI w2 x Fx2 (upM M key (some h)) (nPut M key n)) (hs2 : Sub Fx2 Fx w1) (hf2 : Fr Fx w1 w2) : GAt w2 l x Fl2 Fx2 (L ++ [(h, key)]) (upM M key (some h)) (n + 1) := by
 have hM := (H.nop key).2 hk
 obtain ⟨lst, idx, d, nd, sz, co, le⟩ := H
 have e1 : nPut M key n = n + 1 := by simp [nPut, hM]
 rw [e1] at hi
 have d1 : Dis Fl2 Fx := d.sub hs idx.lt
 refine ⟨hl.fr hf2 d1, hi, (d1.symm.sub hs2 hl.lt).symm, ?_, ?_, fun k i => ?_, by simp; omega⟩
 ·rw [List.map_append]; exact nd_snoc nd hk
 ·intro k hk2
  rw [List.map_append] at hk2
  rcases List.mem_append.1 hk2 with h | h
  ·exact sz k h
  ·simp at h; subst h; exact hz
 ·unfold upM
  by_cases e : k = key
  ·subst e
   rw [if_pos rfl]
   simp only [List.mem_append, List.mem_singleton]
   constructor
   ·intro h; cases h; exact .inr rfl
   ·rintro (h | h)
    ·exact absurd (List.mem_map_of_mem (f := (·.2)) h) hk
    ·cases h; rfl
  ·rw [if_neg e, co]
   simp only [List.mem_append, List.mem_singleton]
   constructor
   ·exact fun h => .inl h
   ·rintro (h | h)
    ·exact h
    ·cases h; exact absurd rfl e
def GAddRet (w : World) (p : Nat) (F : List Nat) (g : Gh) (en : Ending) (w' : World) : Prop := ∃ (v : ByteArray) (b : Bool), en = .returned (.tuple #[.string v, .bool b]) ∧ GhGo w p F g w'
theorem cutQ_head {a : ByteArray} {l : List ByteArray} (h : (a :: l).Nodup) : cutQ (a :: l) a = l := by
 have h2 := (List.nodup_cons.1 h).1
 unfold cutQ
 rw [List.filter_cons_of_neg (by simp), List.filter_eq_self]
 intro b hb
 have : b ≠ a := fun e => h2 (e ▸ hb)
 simpa using this
section
variable {w : World} {p : Nat} {F : List Nat} {g : Gh}
set_option maxRecDepth 100000 in
theorem gadd (H : GhRep w p F g) (hi : g.Inv) (key : ByteArray) (hk : key.size ≤ maxLen) :
  Calls Tryz.prog 77 #[.pointer (some ⟨p, 0, none⟩), .string key] w (GAddRet w p F (g.add key)) := by
 have hcl := cutQ_le g.L key
 have hle := hi.le
 have hr2 := hi.r2
 obtain ⟨bb, hbb⟩ : ∃ b, decide (key ∈ g.L) = b := ⟨_, rfl⟩
 have HT := Lib.hid (gtake H (by omega) key hk hbb)
 have HI := Lib.hid hi
 clear H hi hbb
 go_enter Tryz.func77, Tryz.ntmps77
 go_wp2_with fail
 refine HT.out.mono ?_
 rintro en w1 ⟨rfl, F1, H1, hs1, hg1⟩
 obtain ⟨l, x, Fl, Fx, L, M, n, rfl, h1, h2, h3, h4, h5⟩ := H1
 obtain ⟨k0, k1, k2⟩ := h3.cells
 have hL : L.length = (cutQ g.L key).length := by
  have : (L.map (·.2)).length = (cutQ g.L key).length := by rw [h5]; rfl
  simpa using this
 have hpb := Lib.hid (pushBack (h4.lst.fr ((Fr.refl [] _).drew) (fun b _ => by simp)) (by omega) key)
 have hput := Lib.hid fun (h : Nat) (w3 : World) (f : Fr Fl w1.drew w3) => iputI ((h4.idx.fr ((Fr.refl [] _).drew) (fun b _ => by simp)).fr f h4.d.symm) (by have := h4.le; omega) key hk h
 have hkn : key ∉ L.map (·.2) := by rw [h5]; exact not_mem_cutQ _ _
 have HH := Lib.hid (And.intro h3 (And.intro h4 (And.intro h5 (And.intro hs1 (And.intro hg1 hkn)))))
 have hL2 : L.length ≤ 1024 := by omega
 have HLL := Lib.hid hL
 clear h3 h4 h5 hs1 hg1 hkn hL
 go_wp2_with fail
 first
  | (go_region_held3 (fun w' => w'.cell? ⟨p, 1, none⟩ = some (.pointer (some ⟨l, 0, none⟩)) ∧ w'.cell? ⟨p, 2, none⟩ = some (.pointer (some ⟨x, 0, none⟩)))
    (first
     | (have _h := hf4; exact ⟨cell_fr hf4 (cell_fr hf3 (cell_fr ((Fr.refl [] _).drew) k1 (by simp)) h1) h2, cell_fr hf4 (cell_fr hf3 (cell_fr ((Fr.refl [] _).drew) k2 (by simp)) h1) h2⟩)
     | (have _h := hf3; exact ⟨cell_fr hf3 (cell_fr ((Fr.refl [] _).drew) k1 (by simp)) h1, cell_fr hf3 (cell_fr ((Fr.refl [] _).drew) k2 (by simp)) h1⟩)
     | exact ⟨k1, k2⟩)
    (first
     | (go_at_call 134; refine hpb.out.mono ?_; rintro e w3 ⟨h, Fl2, rfl, hh0, hh1, hh2, hl3, hs3, hf3⟩)
     | (go_at_call 133; refine (hput.out h w3 hf3).mono ?_; rintro e w4 ⟨b4, Fx2, rfl, hi4, hs4, hf4⟩)))
  | fail
 obtain ⟨h3, h4, h5, hs1, hg1, hkn⟩ := HH.out
 have k0 := cell_fr hf4 (cell_fr hf3 (cell_fr ((Fr.refl [] _).drew) k0 (by simp)) h1) h2
 have k1 := cell_fr hf4 (cell_fr hf3 (cell_fr ((Fr.refl [] _).drew) k1 (by simp)) h1) h2
 have hb4 := hf4.get (hf3.get (((Fr.refl [] _).drew).get h3 (by simp)) h1) h2
 have ha4 := (h4.fr ((Fr.refl [] _).drew) (fun b _ => by simp) (fun b _ => by simp)).push hkn hk hl3 hs3 hf3 hi4 hs4 hf4
 have hp1 : p < w1.heap.size := lt_of_block h3
 have hp4 : p ∉ Fl2 := fun hb => by
  rcases hs3 p hb with h | h
  ·exact h1 h
  ·simp at h; omega
 have hp5 : p ∉ Fx2 := fun hb => by
  rcases hs4 p hb with h | h
  ·exact h2 h
  ·have := hf3.size; simp at this; omega
 have hfr : Fr (p :: (Fl ++ Fx)) w1 w4 := ((((Fr.refl [] _).drew).nil).same (hf3.mono (by intro b hb _; simp [hb]))).same (hf4.mono (by intro b hb _; simp [hb]))
 have hsub : Sub (p :: (Fl2 ++ Fx2)) (p :: (Fl ++ Fx)) w1 := by
  intro b hb
  simp at hb
  rcases hb with rfl | hb | hb
  ·exact .inl (by simp)
  ·rcases hs3 b hb with h | h
   ·exact .inl (by simp [h])
   ·exact .inr (by simpa using h)
  ·rcases hs4 b hb with h | h
   ·exact .inl (by simp [h])
   ·right; have := hf3.size; simp at this; omega
 have hL3 : (L ++ [(h, key)]).length = L.length + 1 := by simp
 have HLen := Lib.hid fun (w5 : World) (f : Fr [] w4 w5) => len_l (ha4.lst.fr f (fun b _ => by simp))
 rw [hL3] at HLen
 have hrep : GhRep w4 p (p :: (Fl2 ++ Fx2)) ⟨cutQ g.L key ++ [key], g.room⟩ := ⟨l, x, Fl2, Fx2, _, _, _, rfl, hp4, hp5, hb4, ha4, by rw [List.map_append, h5]; rfl⟩
 have HS := Lib.hid (And.intro (hs1.fr hg1 hsub) (hg1.via hs1 hfr))
 have hnd4 := ha4.nd
 have hsz4 := ha4.sz
 have hlst := ha4.lst
 have hcm : (L ++ [(h, key)]).map (·.2) = cutQ g.L key ++ [key] := by rw [List.map_append, h5]; rfl
 obtain ⟨room, hroom⟩ : ∃ r, g.room = r := ⟨_, rfl⟩
 have hll := HLL.out
 replace k0 : w4.cell? ⟨p, 0, none⟩ = some (.int .i64 g.room) := k0
 rw [hroom] at k0 hr2 hle hrep
 obtain ⟨ll, hlle⟩ : ∃ m, L.length = m := ⟨_, rfl⟩
 rw [hlle] at HLen hL2 hL3 hll
 obtain ⟨gone, tl, hgt⟩ : ∃ a t, L ++ [(h, key)] = a :: t := by
  cases L with
  | nil => exact ⟨_, _, rfl⟩
  | cons a t => exact ⟨a, t ++ [(h, key)], rfl⟩
 have hradd : g.add key = { g with L := if ll + 1 ≤ room then cutQ g.L key ++ [key] else (cutQ g.L key ++ [key]).tail } := by
  unfold Gh.add
  rw [hroom, List.length_append, ← hll]; rfl
 rw [hgt] at hlst hnd4 hcm hsz4
 have HFt := Lib.hid fun (w5 : World) (f : Fr [] w4 w5) => front (hlst.fr f (fun b _ => by simp))
 have HGt := Lib.hid fun (w5 : World) (f : Fr [] w4 w5) => get_in (hlst.fr f (fun b _ => by simp)) (h := gone.1) (v := gone.2) (by simp)
 have hgsz : gone.2.size ≤ maxLen := hsz4 _ (by simp)
 have HTk := Lib.hid fun (w5 : World) (f : Fr [] w4 w5) => gtake (b := true) (hrep.fr0 f) (by rw [← hcm, ← hgt]; simp; omega) gone.2 hgsz (by rw [decide_eq_true_iff]; show gone.2 ∈ cutQ g.L key ++ [key]; rw [← hcm]; simp)
 have hcut : cutQ (cutQ g.L key ++ [key]) gone.2 = (cutQ g.L key ++ [key]).tail := by
  rw [← hcm]; simp only [List.map_cons] at hnd4 ⊢; exact cutQ_head hnd4
 have HX := Lib.hid (And.intro hrep (And.intro hradd (And.intro hcut hroom)))
 clear hrep hradd hcut hroom hlst hnd4 hsz4 hcm hgt hlle hll ha4 hb4 h3 h4 h5 hs1 hg1 hkn hi4 hl3 hf3 hf4 hs3 hs4 hfr hsub hh2 HH HLL k2 hL3 hcl
 by_cases hlt : ll + 1 ≤ room
 ·have q1 : (ll : Int) + 1 ≤ (room : Int) := by omega
  go_wp2_with fail
  first
   | (go_region_held3 (fun w' => w'.cell? ⟨p, 0, none⟩ = some (.int .i64 room) ∧ w'.cell? ⟨p, 1, none⟩ = some (.pointer (some ⟨l, 0, none⟩)))
     (first
      | exact ⟨k0, k1⟩
      | exact ⟨cell_fr ((Fr.refl [] _).drew) k0 (by simp), cell_fr ((Fr.refl [] _).drew) k1 (by simp)⟩)
     (first | (go_at_call 135; refine (HLen.out _ ((Fr.refl [] _).drew)).mono ?_; rintro e w5 ⟨rfl, rfl⟩)))
   | fail
  go_wp2
  go_ret2
  obtain ⟨a1, a2, a3, a4⟩ := HX.out
  refine ⟨_, _, rfl, ?_⟩
  rw [a2, if_pos hlt, a4]
  exact ⟨_, a1.fr0 ((Fr.refl [] _).drew), HS.out.1, HS.out.2.drew⟩
 ·have q1 : (room : Int) < (ll : Int) + 1 := by omega
  go_wp2_with fail
  first
   | (go_region_held3 (fun w' => w'.cell? ⟨p, 0, none⟩ = some (.int .i64 room) ∧ w'.cell? ⟨p, 1, none⟩ = some (.pointer (some ⟨l, 0, none⟩)))
     (first
      | exact ⟨k0, k1⟩
      | exact ⟨cell_fr ((Fr.refl [] _).drew) k0 (by simp), cell_fr ((Fr.refl [] _).drew) k1 (by simp)⟩)
     (first | (go_at_call 135; refine (HLen.out _ ((Fr.refl [] _).drew)).mono ?_; rintro e w5 ⟨rfl, rfl⟩)))
   | fail
  have k1 := cell_fr ((Fr.refl [] _).drew) k1 (by simp)
  clear k0
  have HD1 := Lib.hid (show Fr [] w4 w4.drew from ((Fr.refl [] _).drew))
  generalize w4.drew = w5 at *
  go_wp2_with fail
  go_quiet (first | (go_at_call 137; exact Calls.quiet_of_same ((HFt.out _ (HD1.out.drewN _)).mono fun _ _ h => ⟨h.1, h.2.symm⟩)) | (go_at_call 136; exact Calls.quiet_of_same ((HGt.out _ (HD1.out.drewN _)).mono fun _ _ h => ⟨h.1, h.2.symm⟩)))
  go_wp2_with fail
  refine (HTk.out _ (HD1.out.drewN _)).mono ?_
  rintro e w6 ⟨rfl, hgo⟩
  have HG := Lib.hid (hgo.old (HD1.out.drewN _))
  clear hgo
  go_wp2
  go_ret2
  obtain ⟨a1, a2, a3, a4⟩ := HX.out
  refine ⟨_, _, rfl, ?_⟩
  rw [a2, if_neg hlt, a4]
  have e : (({ L := cutQ g.L key ++ [key], room := room } : Gh).take gone.2) = { L := (cutQ g.L key ++ [key]).tail, room := room } := by
   unfold Gh.take; rw [a3]
  have := HG.out
  rw [e] at this
  exact GhGo.trans HS.out.1 HS.out.2 this
end
theorem Gh.Inv.add {g : Gh} (h : g.Inv) {key : ByteArray} (hz : key.size ≤ maxLen) : (g.add key).Inv := by
 obtain ⟨nd, sz, r1, r2, le⟩ := h
 have hn : (cutQ g.L key ++ [key]).Nodup := nd_snoc (nd.filter _) (not_mem_cutQ _ _)
 have hs : ∀ k, k ∈ cutQ g.L key ++ [key] → k.size ≤ maxLen := fun k hk => by
  rcases List.mem_append.1 hk with h | h
  ·exact sz k (mem_cutQ.1 h).1
  ·simp at h; subst h; exact hz
 have hl := cutQ_le g.L key
 unfold Gh.add
 split
 ·rename_i h; exact ⟨hn, hs, r1, r2, h⟩
 ·rename_i h
  refine ⟨hn.sublist (List.tail_sublist _), fun k hk => hs k ((List.tail_sublist _).subset hk), r1, r2, ?_⟩
  simp only [List.length_tail, List.length_append, List.length_singleton] at *
  omega
theorem Gh.Inv.take {g : Gh} (h : g.Inv) (key : ByteArray) : (g.take key).Inv := by
 obtain ⟨nd, sz, r1, r2, le⟩ := h
 exact ⟨nd.filter _, fun k hk => sz k (mem_cutQ.1 hk).1, r1, r2, Nat.le_trans (cutQ_le _ _) le⟩
def Gh.new (room : Int) : Gh := ⟨[], roomN room⟩
theorem Gh.Inv.new (room : Int) : (Gh.new room).Inv := ⟨List.nodup_nil, by simp [Gh.new], (roomN_bd room).1, (roomN_bd room).2, Nat.zero_le _⟩
set_option maxRecDepth 100000 in
theorem gnew (w : World) (room : Int) (h0 : -9223372036854775808 ≤ room) (h1 : room ≤ 9223372036854775807) :
  Calls Tryz.prog 74 #[.int .i64 room] w fun en w' => ∃ p F, en = .returned (.pointer (some ⟨p, 0, none⟩)) ∧ GhRep w' p F (Gh.new room) ∧ Ge w.heap.size F ∧ Fr [] w w' := by
 go_enter Tryz.func74, Tryz.ntmps74
 go_wp2_with fail
 refine (fixClamp room 1 1024 h0 h1 (by omega) (by omega) (by omega) _).mono ?_
 rintro en w0 ⟨rfl, rfl⟩
 obtain ⟨rm, hrm⟩ : ∃ r : Nat, roomN room = r := ⟨_, rfl⟩
 have hri : min (max room 1) 1024 = (rm : Int) := by rw [← hrm]; unfold roomN; omega
 rw [hri]
 have HRM := Lib.hid hrm
 clear hri hrm
 go_wp2_with fail
 refine (listNew _).mono ?_
 rintro en w1 ⟨l, Fl, rfl, hl, hgl, hf1⟩
 go_wp2_with fail
 refine (idxNewI _).mono ?_
 rintro en w2 ⟨x, Fx, rfl, hx, hgx, hf2⟩
 have HX := Lib.hid (And.intro hl (And.intro hgl (And.intro hf1 (And.intro hx (And.intro hgx hf2)))))
 clear hl hgl hf1 hx hgx hf2
 go_wp2
 go_ret
 obtain ⟨hl, hgl, hf1, hx, hgx, hf2⟩ := HX.out
 have hl2 := (hl.fr hf2 (fun b _ => by simp)).lt
 have hx2 := hx.lt
 have hs1 := hf1.size
 have hs2 := hf2.size
 have ha : Fr [] w2 (w2.alloc (.cells #[.int .i64 rm, .pointer (some ⟨l, 0, none⟩), .pointer (some ⟨x, 0, none⟩)] 162)) := (Fr.refl [] _).alloc _
 refine ⟨w2.heap.size, w2.heap.size :: (Fl ++ Fx), rfl, ⟨l, x, Fl, Fx, [], _, 0, rfl, fun h => by have := hl2 _ h; omega, fun h => by have := hx2 _ h; omega, ?_, ⟨(hl.fr hf2 (fun b _ => by simp)).fr ha (fun b _ => by simp), hx.fr ha (fun b _ => by simp), fun b h1 h2 => ?_, by simp, by simp, by simp, Nat.zero_le _⟩, rfl⟩, ?_, (hf1.same hf2).alloc _⟩
 ·show _ = _
  rw [block_alloc_new]
  simp only [Gh.new, HRM.out]
 ·have := hl.lt b h1; have := hgx b h2; omega
 ·intro b hb
  simp at hb
  rcases hb with rfl | hb | hb
  ·omega
  ·exact hgl b hb
  ·have := hgx b hb; omega
end Go.Proofs.YtphlancijlljcaaGreat

set_option linter.unusedVariables false
set_option linter.unusedSimpArgs false
namespace Go.Proofs.YtphlancijlljcaaGreat
open Go.RowKit
attribute [local go_sem ↓] Go.wp_at_zero Go.wp_at_succ
structure Cts where
 all : Nat
 hits : Nat
 ghosts : Nat
def incN (n : Nat) : Nat := if 1099511627776 ≤ n then n else n + 1
def Cts.count (c : Cts) (hit gone : Bool) : Cts := ⟨incN c.all, bif hit then incN c.hits else c.hits, bif gone then incN c.ghosts else c.ghosts⟩
def Cts.zero : Cts := ⟨0, 0, 0⟩
structure Cts.Ok (c : Cts) : Prop where
 a : c.all ≤ 1099511627776
 h : c.hits ≤ 1099511627776
 g : c.ghosts ≤ 1099511627776
theorem incN_le {n : Nat} (h : n ≤ 1099511627776) : incN n ≤ 1099511627776 := by unfold incN; split <;> omega
theorem Cts.Ok.count {c : Cts} (h : c.Ok) (hit gone : Bool) : (c.count hit gone).Ok := by
 refine ⟨incN_le h.a, ?_, ?_⟩
 ·cases hit
  ·exact h.h
  ·exact incN_le h.h
 ·cases gone
  ·exact h.g
  ·exact incN_le h.g
theorem Cts.Ok.zero : Cts.zero.Ok := ⟨Nat.zero_le _, Nat.zero_le _, Nat.zero_le _⟩
theorem fixIncN (n : Nat) (w : World) : Calls Tryz.prog 132 #[.int .i64 n, .int .i64 1099511627776] w fun e w' => e = .returned (.int .i64 (incN n : Nat)) ∧ w = w' := by
 refine (fixIncI n 1099511627776 (by omega) (by omega) w).mono ?_
 rintro e w' ⟨rfl, rfl⟩
 refine ⟨?_, rfl⟩
 unfold incN
 congr 3
 split <;> split <;> omega
/-- A shadow's block. -/
def ShB (w : World) (p : Nat) (kind : Int) (v : Value) (q : Nat) (a b : Cts) : Prop :=
 w.heap[p]? = some (.cells #[.int .i64 kind, v, .pointer (some ⟨q, 0, none⟩), .int .i64 a.all, .int .i64 a.hits, .int .i64 a.ghosts, .int .i64 b.all, .int .i64 b.hits, .int .i64 b.ghosts] 106 (0, 0))
theorem ShB.cell {w : World} {p q : Nat} {kind : Int} {v : Value} {a b : Cts} (h : ShB w p kind v q a b) :
  w.cell? ⟨p, 0, none⟩ = some (.int .i64 kind) ∧ w.cell? ⟨p, 1, none⟩ = some v ∧ w.cell? ⟨p, 2, none⟩ = some (.pointer (some ⟨q, 0, none⟩)) ∧ w.cell? ⟨p, 3, none⟩ = some (.int .i64 a.all) ∧ w.cell? ⟨p, 4, none⟩ = some (.int .i64 a.hits) ∧ w.cell? ⟨p, 5, none⟩ = some (.int .i64 a.ghosts) ∧
  w.cell? ⟨p, 6, none⟩ = some (.int .i64 b.all) ∧ w.cell? ⟨p, 7, none⟩ = some (.int .i64 b.hits) ∧ w.cell? ⟨p, 8, none⟩ = some (.int .i64 b.ghosts) := by
 have c := cell_of_block h
 exact ⟨(c 0).trans rfl, (c 1).trans rfl, (c 2).trans rfl, (c 3).trans rfl, (c 4).trans rfl, (c 5).trans rfl, (c 6).trans rfl, (c 7).trans rfl, (c 8).trans rfl⟩
theorem scount3 {w : World} {p q : Nat} {kind : Int} {v : Value} {a b : Cts} (H : ShB w p kind v q a b) (hit gone : Bool) :
  Calls Tryz.prog 76 #[.pointer (some ⟨p, 3, none⟩), .bool hit, .bool gone] w fun en w' => en = .returned (.tuple #[]) ∧ ShB w' p kind v q (a.count hit gone) b ∧ Fr [p] w w' := by
 obtain ⟨_, _, _, a3, a4, a5, b3, b4, b5⟩ := H.cell
 have z := fun i => free_of_block H i
 have HH := Lib.hid H
 clear H
 have hfr := Lib.hid (Fr.refl [p] w)
 have hf1 := Lib.hid fun (u : Value) => hfr.out.setCell (p := ⟨p, 3, none⟩) (by simp) u
 have hf2 := Lib.hid fun (i : Nat) (u y : Value) => (hf1.out u).setCell (p := ⟨p, i, none⟩) (by simp) y
 have hf3 := Lib.hid fun (i j : Nat) (u y z : Value) => (hf2.out i u y).setCell (p := ⟨p, j, none⟩) (by simp) z
 have hb1 := Lib.hid fun (u : Value) => block_set_same HH.out 3 u
 have hb2 := Lib.hid fun (i : Nat) (u y : Value) => block_set_same (hb1.out u) i y
 have hb3 := Lib.hid fun (i j : Nat) (u y z : Value) => block_set_same (hb2.out i u y) j z
 clear hfr HH
 cases hit <;> cases gone
 case false.false =>
  go_enter Tryz.func76, Tryz.ntmps76
  go_wp2_with (go_at_call 132; refine (fixIncN _ _).mono ?_; rintro en w1 ⟨rfl, rfl⟩)
  go_end0
  exact ⟨rfl, hb1.out _, hf1.out _⟩
 case false.true =>
  go_enter Tryz.func76, Tryz.ntmps76
  go_wp2_with (go_at_call 132; refine (fixIncN _ _).mono ?_; rintro en w1 ⟨rfl, rfl⟩)
  go_end0
  exact ⟨rfl, hb2.out _ _ _, hf2.out _ _ _⟩
 case true.false =>
  go_enter Tryz.func76, Tryz.ntmps76
  go_wp2_with (go_at_call 132; refine (fixIncN _ _).mono ?_; rintro en w1 ⟨rfl, rfl⟩)
  go_end0
  exact ⟨rfl, hb2.out _ _ _, hf2.out _ _ _⟩
 case true.true =>
  go_enter Tryz.func76, Tryz.ntmps76
  go_wp2_with (go_at_call 132; refine (fixIncN _ _).mono ?_; rintro en w1 ⟨rfl, rfl⟩)
  go_end0
  exact ⟨rfl, hb3.out _ _ _ _ _, hf3.out _ _ _ _ _⟩
theorem scount6 {w : World} {p q : Nat} {kind : Int} {v : Value} {a b : Cts} (H : ShB w p kind v q a b) (hit gone : Bool) :
  Calls Tryz.prog 76 #[.pointer (some ⟨p, 6, none⟩), .bool hit, .bool gone] w fun en w' => en = .returned (.tuple #[]) ∧ ShB w' p kind v q a (b.count hit gone) ∧ Fr [p] w w' := by
 obtain ⟨_, _, _, a3, a4, a5, b3, b4, b5⟩ := H.cell
 have z := fun i => free_of_block H i
 have HH := Lib.hid H
 clear H
 have hfr := Lib.hid (Fr.refl [p] w)
 have hf1 := Lib.hid fun (u : Value) => hfr.out.setCell (p := ⟨p, 6, none⟩) (by simp) u
 have hf2 := Lib.hid fun (i : Nat) (u y : Value) => (hf1.out u).setCell (p := ⟨p, i, none⟩) (by simp) y
 have hf3 := Lib.hid fun (i j : Nat) (u y z : Value) => (hf2.out i u y).setCell (p := ⟨p, j, none⟩) (by simp) z
 have hb1 := Lib.hid fun (u : Value) => block_set_same HH.out 6 u
 have hb2 := Lib.hid fun (i : Nat) (u y : Value) => block_set_same (hb1.out u) i y
 have hb3 := Lib.hid fun (i j : Nat) (u y z : Value) => block_set_same (hb2.out i u y) j z
 clear hfr HH
 cases hit <;> cases gone
 case false.false =>
  go_enter Tryz.func76, Tryz.ntmps76
  go_wp2_with (go_at_call 132; refine (fixIncN _ _).mono ?_; rintro en w1 ⟨rfl, rfl⟩)
  go_end0
  exact ⟨rfl, hb1.out _, hf1.out _⟩
 case false.true =>
  go_enter Tryz.func76, Tryz.ntmps76
  go_wp2_with (go_at_call 132; refine (fixIncN _ _).mono ?_; rintro en w1 ⟨rfl, rfl⟩)
  go_end0
  exact ⟨rfl, hb2.out _ _ _, hf2.out _ _ _⟩
 case true.false =>
  go_enter Tryz.func76, Tryz.ntmps76
  go_wp2_with (go_at_call 132; refine (fixIncN _ _).mono ?_; rintro en w1 ⟨rfl, rfl⟩)
  go_end0
  exact ⟨rfl, hb2.out _ _ _, hf2.out _ _ _⟩
 case true.true =>
  go_enter Tryz.func76, Tryz.ntmps76
  go_wp2_with (go_at_call 132; refine (fixIncN _ _).mono ?_; rintro en w1 ⟨rfl, rfl⟩)
  go_end0
  exact ⟨rfl, hb3.out _ _ _ _ _, hf3.out _ _ _ _ _⟩
end Go.Proofs.YtphlancijlljcaaGreat
