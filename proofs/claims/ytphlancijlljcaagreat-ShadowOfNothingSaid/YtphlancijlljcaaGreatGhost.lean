/- Package ghost, walked: keys that went, the oldest first, and where each stands; package fix's Clamp, Inc. -/
import Derived.Test.YtphlancijlljcaaGreatLirsPure
import Derived.Test.YtphlancijlljcaaGreatRws
set_option linter.unusedVariables false
set_option linter.unusedSimpArgs false
namespace Go.Proofs.YtphlancijlljcaaGreat
open Go.RowKit
attribute [local go_sem ↓] Go.wp_at_zero Go.wp_at_succ
theorem fixClamp (a lo hi : Int) (ha : -9223372036854775808 ≤ a) (ha2 : a ≤ 9223372036854775807) (hl : 0 ≤ lo) (hh : hi ≤ 9223372036854775807) (hlh : lo ≤ hi) (w : World) :
    Calls Tryz.prog 127 #[.int .i64 a, .int .i64 lo, .int .i64 hi] w fun e w' => e = .returned (.int .i64 (min (max a lo) hi)) ∧ w = w' := by
  have h3 : a < lo ∨ (lo ≤ a ∧ a ≤ hi) ∨ hi < a := by omega
  rcases h3 with h | ⟨h, h'⟩ | h
  · have e : min (max a lo) hi = lo := by omega
    rw [e]
    clear e
    have h5 : ¬ hi < lo := by omega
    go_enter Tryz.func127, Tryz.ntmps127
    go_wp2
    go_ret
    exact ⟨rfl, rfl⟩
  · have e : min (max a lo) hi = a := by omega
    rw [e]
    clear e
    go_enter Tryz.func127, Tryz.ntmps127
    go_wp2
    all_goals
      go_ret
      exact ⟨rfl, rfl⟩
  · have e : min (max a lo) hi = hi := by omega
    rw [e]
    clear e
    have h5 : lo < a ∨ lo = a := by omega
    go_enter Tryz.func127, Tryz.ntmps127
    go_wp2
    all_goals
      go_ret
      exact ⟨rfl, rfl⟩
theorem fixInc (a m : Int) (ha : 0 ≤ a) (hm : m ≤ 9223372036854775807) (w : World) :
    Calls Tryz.prog 132 #[.int .i64 a, .int .i64 m] w fun e w' => e = .returned (.int .i64 (if m ≤ a then a else a + 1)) ∧ w = w' := by
  by_cases h : m ≤ a
  · rw [if_pos h]
    go_enter Tryz.func132, Tryz.ntmps132
    go_wp2
    go_ret
    exact ⟨rfl, rfl⟩
  · rw [if_neg h]
    have h2 : a < m := by omega
    go_enter Tryz.func132, Tryz.ntmps132
    go_wp2
    go_ret
    exact ⟨rfl, rfl⟩
/-- Keys that went. -/
structure Gh where
  L : List ByteArray
  room : Nat
def Gh.take (g : Gh) (key : ByteArray) : Gh := { g with L := cutQ g.L key }
def Gh.add (g : Gh) (key : ByteArray) : Gh := { g with L := if (cutQ g.L key ++ [key]).length ≤ g.room then cutQ g.L key ++ [key] else (cutQ g.L key ++ [key]).tail }
structure Gh.Inv (g : Gh) : Prop where
  nd : g.L.Nodup
  sz : ∀ k, k ∈ g.L → k.size ≤ maxLen
  r1 : 1 ≤ g.room
  r2 : g.room ≤ 1024
  le : g.L.length ≤ g.room
/-- A list of keys, and an index of where each stands. -/
structure GAt (w : World) (l x : Nat) (Fl Fx : List Nat) (L : List (Nat × ByteArray)) (M : ByteArray → Option Nat) (n : Nat) : Prop where
  lst : LRep w l Fl L
  idx : IRepI w x Fx M n
  d : Dis Fl Fx
  nd : (L.map (·.2)).Nodup
  sz : ∀ k, k ∈ L.map (·.2) → k.size ≤ maxLen
  co : ∀ k h, M k = some h ↔ (h, k) ∈ L
  le : n ≤ L.length
def GhB (w : World) (p room l x : Nat) : Prop := w.heap[p]? = some (.cells #[.int .i64 room, .pointer (some ⟨l, 0, none⟩), .pointer (some ⟨x, 0, none⟩)] 162 (0, 0))
def GhRep (w : World) (p : Nat) (F : List Nat) (g : Gh) : Prop :=
  ∃ l x Fl Fx L M n, F = p :: (Fl ++ Fx) ∧ p ∉ Fl ∧ p ∉ Fx ∧ GhB w p g.room l x ∧ GAt w l x Fl Fx L M n ∧ L.map (·.2) = g.L
def GhGo (w : World) (p : Nat) (F : List Nat) (g : Gh) (w' : World) : Prop := ∃ F', GhRep w' p F' g ∧ Sub F' F w ∧ Fr F w w'
section
variable {w w' w0 w1 w2 : World} {p l x n : Nat} {F F1 Fl Fx G : List Nat} {L : List (Nat × ByteArray)} {M : ByteArray → Option Nat} {g : Gh}
theorem GAt.fr (h : GAt w l x Fl Fx L M n) (f : Fr G w w') (h1 : Dis Fl G) (h2 : Dis Fx G) : GAt w' l x Fl Fx L M n :=
  ⟨h.lst.fr f h1, h.idx.fr f h2, h.d, h.nd, h.sz, h.co, h.le⟩
theorem GAt.nop (h : GAt w l x Fl Fx L M n) (k : ByteArray) : M k = none ↔ k ∉ L.map (·.2) := by
  constructor
  · intro hn hk
    obtain ⟨e, he, rfl⟩ := List.mem_map.1 hk
    have := (h.co e.2 e.1).2 he
    rw [hn] at this; cases this
  · intro hk
    cases hM : M k with
    | none => rfl
    | some i => exact absurd (List.mem_map_of_mem (f := (·.2)) ((h.co k i).1 hM)) hk
theorem GhRep.fr (h : GhRep w p F g) (f : Fr G w w') (hd : Dis F G) : GhRep w' p F g := by
  obtain ⟨l, x, Fl, Fx, L, M, n, rfl, h1, h2, h3, h4, h5⟩ := h
  exact ⟨l, x, Fl, Fx, L, M, n, rfl, h1, h2, f.get h3 (hd p (by simp)), h4.fr f (fun b hb => hd b (by simp [hb])) (fun b hb => hd b (by simp [hb])), h5⟩
theorem GhRep.fr0 (h : GhRep w p F g) (f : Fr [] w w') : GhRep w' p F g := h.fr f (fun b _ => by simp)
theorem GhRep.lt (h : GhRep w p F g) : Lt F w := by
  obtain ⟨l, x, Fl, Fx, L, M, n, rfl, h1, h2, h3, h4, h5⟩ := h
  intro b hb
  simp at hb
  rcases hb with rfl | hb | hb
  · exact lt_of_block h3
  · exact h4.lst.lt b hb
  · exact h4.idx.lt b hb
theorem GhGo.refl (h : GhRep w p F g) : GhGo w p F g w := ⟨F, h, Sub.refl _ _, Fr.refl _ _⟩
theorem GhGo.trans (h1 : Sub F1 F w) (h2 : Fr F w w1) (h : GhGo w1 p F1 g w2) : GhGo w p F g w2 := by
  obtain ⟨F', a1, a2, a3⟩ := h
  exact ⟨F', a1, h1.fr h2 a2, h2.via h1 a3⟩
theorem GhGo.fr (h : GhGo w p F g w1) (f : Fr [] w1 w2) : GhGo w p F g w2 := by
  obtain ⟨F', h1, h2, h3⟩ := h
  exact ⟨F', h1.fr0 f, h2, h3.same f.nil⟩
theorem GhGo.old (h : GhGo w p F g w1) (f : Fr [] w0 w) : GhGo w0 p F g w1 := by
  obtain ⟨F', h1, h2, h3⟩ := h
  exact ⟨F', h1, h2.old f.size, f.nil.same h3⟩
theorem GhB.cells (h : GhB w p n l x) : w.cell? ⟨p, 0, none⟩ = some (.int .i64 n) ∧ w.cell? ⟨p, 1, none⟩ = some (.pointer (some ⟨l, 0, none⟩)) ∧ w.cell? ⟨p, 2, none⟩ = some (.pointer (some ⟨x, 0, none⟩)) :=
  ⟨(cell_of_block h 0).trans rfl, (cell_of_block h 1).trans rfl, (cell_of_block h 2).trans rfl⟩
end
theorem cutQ_map {L1 L2 : List (Nat × ByteArray)} {h : Nat} {key : ByteArray} (hn : ((L1 ++ (h, key) :: L2).map (·.2)).Nodup) : cutQ ((L1 ++ (h, key) :: L2).map (·.2)) key = (L1 ++ L2).map (·.2) := by
  simp only [List.map_append, List.map_cons] at hn ⊢
  rw [List.nodup_append] at hn
  obtain ⟨n1, n2, n3⟩ := hn
  have n4 := List.nodup_cons.1 n2
  unfold cutQ
  rw [List.filter_append, List.filter_cons_of_neg (by simp)]
  congr 1
  · rw [List.filter_eq_self]
    intro a ha
    simpa using fun e => n3 a ha key (by simp) e
  · rw [List.filter_eq_self]
    intro a ha
    have : a ≠ key := fun e => n4.1 (e ▸ ha)
    simpa using this
theorem GAt.del {w w1 w2 : World} {l x n : Nat} {Fl Fx Fl2 : List Nat} {L1 L2 : List (Nat × ByteArray)} {M : ByteArray → Option Nat} {h : Nat} {key : ByteArray}
    (H : GAt w l x Fl Fx (L1 ++ (h, key) :: L2) M n) (hd : DelRetI w x n Fx M key w1) (hl : LRep w2 l Fl2 (L1 ++ L2)) (hs : Sub Fl2 Fl w1) (hf : Fr Fl w1 w2) (hlt : Lt Fx w1) : GAt w2 l x Fl2 Fx (L1 ++ L2) (upM M key none) (n - 1) := by
  obtain ⟨lst, idx, d, nd, sz, co, le⟩ := H
  have hsub : List.Sublist (L1 ++ L2) (L1 ++ (h, key) :: L2) := (List.Sublist.refl L1).append (List.sublist_cons_self _ _)
  have hMk : M key = some h := (co key h).2 (by simp)
  have e1 : nDel M key n = n - 1 := by simp [nDel, hMk]
  obtain ⟨hd1, hd2⟩ := hd
  rw [e1] at hd1
  refine ⟨hl, hd1.fr hf d.symm, d.sub hs hlt, nd.sublist (hsub.map _), fun k hk => sz k ((hsub.map _).subset hk), fun k i => ?_, by simp at le ⊢; omega⟩
  unfold upM
  by_cases e : k = key
  · subst e
    rw [if_pos rfl]
    constructor
    · intro h; cases h
    · intro hm
      simp only [List.map_append, List.map_cons] at nd
      have := (List.nodup_cons.1 (List.nodup_append.1 nd).2.1).1
      have n3 := (List.nodup_append.1 nd).2.2
      rcases List.mem_append.1 hm with hm | hm
      · exact absurd rfl (n3 k (List.mem_map_of_mem (f := (·.2)) hm) k (by simp))
      · exact absurd (List.mem_map_of_mem (f := (·.2)) hm) this
  · rw [if_neg e, co]
    simp only [List.mem_append, List.mem_cons]
    constructor
    · rintro (h | h | h)
      · exact .inl h
      · cases h; exact absurd rfl e
      · exact .inr h
    · rintro (h | h)
      · exact .inl h
      · exact .inr (.inr h)
section
variable {w : World} {p : Nat} {F : List Nat} {g : Gh}
set_option maxRecDepth 100000 in
theorem gtake (H : GhRep w p F g) (hl : g.L.length ≤ 80000) (key : ByteArray) (hk : key.size ≤ maxLen) {b : Bool} (hb : decide (key ∈ g.L) = b) :
    Calls Tryz.prog 75 #[.pointer (some ⟨p, 0, none⟩), .string key] w fun en w' => en = .returned (.bool b) ∧ GhGo w p F (g.take key) w' := by
  have hlt := H.lt
  obtain ⟨l, x, Fl, Fx, L, M, n, rfl, h1, h2, h3, h4, h5⟩ := H
  obtain ⟨k0, k1, k2⟩ := h3.cells
  have hn : n ≤ 90000 := by have := h4.le; rw [← h5] at hl; simp at hl; omega
  cases hM : M key with
  | none =>
    have hno := (h4.nop key).1 hM
    rw [h5] at hno
    have hb0 : b = false := by rw [← hb]; exact decide_eq_false hno
    subst hb0
    have HD := Lib.hid (idelI_none h4.idx key hk hM)
    have hfin : ∀ w1 w2 : World, DelRetI w x n Fx M key w1 → Fr [] w1 w2 → GhGo w p (p :: (Fl ++ Fx)) (g.take key) w2 := by
      intro w1 w2 ⟨hi, hf⟩ h6
      have e2 : upM M key none = M := by funext k; unfold upM; split; rename_i h; rw [h, hM]; rfl
      have e3 : nDel M key n = n := by simp [nDel, hM]
      rw [e2, e3] at hi
      have e4 : (g.take key).L = g.L := cutQ_not hno
      refine ⟨_, ⟨l, x, Fl, Fx, L, M, n, rfl, h1, h2, h6.get (hf.get h3 h2) (by simp), ⟨(h4.lst.fr hf h4.d).fr h6 (fun b _ => by simp), hi.fr h6 (fun b _ => by simp), h4.d, h4.nd, h4.sz, h4.co, h4.le⟩, by rw [e4]; exact h5⟩, Sub.refl _ _, (hf.mono (by intro b hb _; simp [hb])).same h6.nil⟩
    have HF := Lib.hid hfin
    clear hfin h1 h2 h3 h4 h5 hlt hno hb hM
    go_enter Tryz.func75, Tryz.ntmps75
    go_wp2_with fail
    refine HD.out.mono ?_
    rintro e w1 ⟨rfl, hdr⟩
    go_wp2
    go_ret
    exact ⟨rfl, HF.out w1 _ hdr (Fr.refl _ _)⟩
  | some h =>
    have hmem := (h4.co key h).1 hM
    obtain ⟨L1, L2, hL⟩ := mem_split hmem
    have hb1 : b = true := by rw [← hb, decide_eq_true_iff, ← h5]; exact List.mem_map_of_mem (f := (·.2)) hmem
    subst hb1
    subst hL
    have HD := Lib.hid (idelI h4.idx hn key hk hM)
    have hxl : Lt Fx w := h4.idx.lt
    have hr := Lib.hid fun (w1 : World) (k : Fr Fx w w1) => remove_in (h4.lst.fr k h4.d)
    have hfin : ∀ w1 w2 : World, DelRetI w x n Fx M key w1 → (∃ F', LRep w2 l F' (L1 ++ L2) ∧ Sub F' Fl w1 ∧ Fr Fl w1 w2) → GhGo w p (p :: (Fl ++ Fx)) (g.take key) w2 := by
      rintro w1 w2 hd ⟨F', a1, a2, a3⟩
      have e4 : (g.take key).L = (L1 ++ L2).map (·.2) := by
        show cutQ g.L key = _
        rw [← h5]; exact cutQ_map h4.nd
      have hf1 := hd.2
      have hs1 := hf1.size
      have hp : p < w.heap.size := hlt p (by simp)
      refine ⟨p :: (F' ++ Fx), ⟨l, x, F', Fx, _, _, _, rfl, fun hb => ?_, h2, a3.get (hf1.get h3 h2) h1, h4.del hd a1 a2 a3 (hxl.fr hf1), e4.symm⟩, ?_, ?_⟩
      · rcases a2 p hb with h | h
        · exact h1 h
        · omega
      · intro b hb
        simp at hb
        rcases hb with rfl | hb | hb
        · exact .inl (by simp)
        · rcases a2 b hb with h | h
          · exact .inl (by simp [h])
          · right; omega
        · exact .inl (by simp [hb])
      · exact (hf1.mono (by intro b hb _; simp [hb])).same (a3.mono (by intro b hb _; simp [hb]))
    have HF := Lib.hid hfin
    have hpx : p ∉ Fx := h2
    have hHL := (h4.lst).hnd (h, key) (by simp)
    simp at hHL
    clear hfin h1 h2 h3 h4 h5 hlt hb hM hmem hl hn
    go_enter Tryz.func75, Tryz.ntmps75
    go_wp2_with fail
    refine HD.out.mono ?_
    rintro e w1 ⟨rfl, hdr⟩
    have hf1 := hdr.2
    have k1 := cell_fr hf1 k1 hpx
    have HX := Lib.hid hdr
    have HR := Lib.hid (hr.out w1 hf1)
    clear hdr hf1 hr k2 k0
    go_wp2_with fail
    refine HR.out.mono ?_
    rintro e w2 ⟨rfl, hg⟩
    have HG := Lib.hid (HF.out _ _ HX.out hg)
    clear hg
    go_wp2
    go_ret
    exact ⟨rfl, HG.out⟩
end
end Go.Proofs.YtphlancijlljcaaGreat
