/- Package shadow, walked: what a shadow is in memory. -/
import Derived.Test.YtphlancijlljcaaGreatG9
import Derived.Test.YtphlancijlljcaaGreatEn
set_option linter.unusedVariables false
set_option linter.unusedSimpArgs false
namespace Go.Proofs.YtphlancijlljcaaGreat
open Go.RowKit
attribute [local go_sem ↓] Go.wp_at_zero Go.wp_at_succ
structure Shd where
 kind : Int
 e : En
 g : Gh
 ep : Cts
 tot : Cts
def Shd.access (s : Shd) (key : ByteArray) : Bool × Shd :=
 ((s.e.access key).1, { kind := s.kind, e := (s.e.access key).2.2, g := (s.e.access key).2.1.foldl Gh.add (bif (s.e.access key).1 then s.g else s.g.take key), ep := s.ep.count (s.e.access key).1 (!(s.e.access key).1 && decide (key ∈ s.g.L)), tot := s.tot.count (s.e.access key).1 (!(s.e.access key).1 && decide (key ∈ s.g.L)) })
def ShRep (w : World) (p : Nat) (F : List Nat) (s : Shd) : Prop :=
 ∃ e q Fe Fg, F = p :: (Fe ++ Fg) ∧ p ∉ Fe ∧ p ∉ Fg ∧ Dis Fe Fg ∧ ShB w p s.kind (.iface (kTy s.e.kd) (.pointer (some ⟨e, 0, none⟩))) q s.ep s.tot ∧ EE w e Fe s.e ∧ GhRep w q Fg s.g ∧ s.g.Inv
def ShGo (w : World) (p : Nat) (F : List Nat) (s : Shd) (w' : World) : Prop := ∃ F', ShRep w' p F' s ∧ Sub F' F w ∧ Fr F w w'
section
variable {w w' w1 w2 : World} {p : Nat} {F G : List Nat} {s : Shd}
theorem ShRep.fr (h : ShRep w p F s) (f : Fr G w w') (hd : Dis F G) : ShRep w' p F s := by
 obtain ⟨e, q, Fe, Fg, rfl, h1, h2, h3, h4, h5, h6, h7⟩ := h
 exact ⟨e, q, Fe, Fg, rfl, h1, h2, h3, f.get h4 (hd p (by simp)), h5.fr f (fun b hb => hd b (by simp [hb])), h6.fr f (fun b hb => hd b (by simp [hb])), h7⟩
theorem ShRep.fr0 (h : ShRep w p F s) (f : Fr [] w w') : ShRep w' p F s := h.fr f (fun b _ => by simp)
theorem ShRep.lt (h : ShRep w p F s) : Lt F w := by
 obtain ⟨e, q, Fe, Fg, rfl, h1, h2, h3, h4, h5, h6, h7⟩ := h
 intro b hb
 simp at hb
 rcases hb with rfl | hb | hb
 ·exact lt_of_block h4
 ·exact h5.lt b hb
 ·exact h6.lt b hb
end
theorem foldl_inv {g : Gh} (h : g.Inv) : ∀ {l : List ByteArray}, (∀ k, k ∈ l → k.size ≤ maxLen) → (l.foldl Gh.add g).Inv := by
 intro l
 induction l generalizing g with
 | nil => intro _; exact h
 | cons a l ih => intro hl; exact ih (h.add (hl a (by simp))) (fun k hk => hl k (by simp [hk]))
theorem fold_snoc (g : Gh) (l : List ByteArray) (j : Nat) (h : j < l.length) : (l.take (j + 1)).foldl Gh.add g = ((l.take j).foldl Gh.add g).add l[j] := by
 have e : (l[j]?).toList = [l[j]] := by rw [List.getElem?_eq_getElem h]; rfl
 rw [List.take_add_one, e, List.foldl_append]; rfl
theorem sh_after {s : Shd} {w w1 w2 w3 w4 w5 : World} {p e q : Nat} {Fe Fe1 Fg Fg2 Fg3 : List Nat} {v v' : Value} {s' : En} {g' : Gh} {a b : Cts}
  (hlt : Lt (p :: (Fe ++ Fg)) w) (h1 : p ∉ Fe) (h2 : p ∉ Fg) (h3 : Dis Fe Fg) (hgo : Ge w.heap.size v.ownBlock.toList) (he : EE w1 e Fe1 s') (hs1 : Sub Fe1 Fe w) (hf1 : Fr Fe w w1) (hd1 : Dis v.ownBlock.toList Fe1)
  (hs2 : Sub Fg2 Fg w1) (hf2 : Fr Fg w1 w2) (hb4 : ShB w4 p s.kind v' q a b) (hf3 : Fr [p] w2 w3) (hf4 : Fr [p] w3 w4) (hg5 : GhRep w5 q Fg3 g') (hs5 : Sub Fg3 Fg2 w4) (hf5 : Fr Fg2 w4 w5) (hi : g'.Inv)
  (hv' : v' = .iface (kTy s'.kd) (.pointer (some ⟨e, 0, none⟩))) :
  ShGo w p (p :: (Fe ++ Fg)) ⟨s.kind, s', g', a, b⟩ w5 := by
 subst hv'
 have z1 := hf1.size
 have z2 := hf2.size
 have z3 := hf3.size
 have z4 := hf4.size
 have hpw : p < w.heap.size := hlt p (by simp)
 have hel := he.lt
 have hp1 : p ∉ Fe1 := fun hb => by
  rcases hs1 p hb with h | h
  ·exact h1 h
  ·omega
 have hp2 : p ∉ Fg2 := fun hb => by
  rcases hs2 p hb with h | h
  ·exact h2 h
  ·omega
 have hp3 : p ∉ Fg3 := fun hb => by
  rcases hs5 p hb with h | h
  ·exact hp2 h
  ·omega
 have d1 : Dis Fe1 Fg := fun b hb hx => by
  rcases hs1 b hb with h | h
  ·exact h3 b h hx
  ·have := hlt b (by simp [hx]); omega
 have d2 : Dis Fe1 Fg2 := fun b hb hx => by
  rcases hs2 b hx with h | h
  ·exact d1 b hb h
  ·have := hel b hb; omega
 have d3 : Dis Fe1 Fg3 := fun b hb hx => by
  rcases hs5 b hx with h | h
  ·exact d2 b hb h
  ·have := hel b hb; omega
 have dp : Dis Fe1 [p] := fun b hb hx => by simp at hx; subst hx; exact hp1 hb
 have he5 : EE w5 e Fe1 s' := (((he.fr hf2 d1).fr hf3 dp).fr hf4 dp).fr hf5 d2
 refine ⟨p :: (Fe1 ++ Fg3), ⟨e, q, Fe1, Fg3, rfl, hp1, hp3, d3, hf5.get hb4 hp2, he5, hg5, hi⟩, ?_, ?_⟩
 ·intro b hb
  simp at hb
  rcases hb with rfl | hb | hb
  ·exact .inl (by simp)
  ·rcases hs1 b hb with h | h
   ·exact .inl (by simp [h])
   ·exact .inr h
  ·rcases hs5 b hb with h | h
   ·rcases hs2 b h with h | h
    ·exact .inl (by simp [h])
    ·right; omega
   ·right; omega
 ·have f1 : Fr (p :: (Fe ++ Fg)) w w1 := hf1.mono (by intro b hb _; simp [hb])
  have f2 : Fr (p :: (Fe ++ Fg)) w w2 := f1.same (hf2.mono (by intro b hb _; simp [hb]))
  have f4 : Fr (p :: (Fe ++ Fg)) w w4 := (f2.same (hf3.mono (by intro b hb _; simp at hb; simp [hb]))).same (hf4.mono (by intro b hb _; simp at hb; simp [hb]))
  refine f4.trans hf5 (fun _ h _ => h) (fun b hb hl => ?_)
  rcases hs2 b hb with h | h
  ·simp [h]
  ·omega
set_option maxRecDepth 100000 in
theorem shaccess {w : World} {p : Nat} {F : List Nat} {s : Shd} (H : ShRep w p F s) (key : ByteArray) (hk : key.size ≤ maxLen) :
  Calls Tryz.prog 18 #[.pointer (some ⟨p, 0, none⟩), .string key] w fun en w' => en = .returned (.bool (s.access key).1) ∧ ShGo w p F (s.access key).2 w' := by
 have hlt := H.lt
 obtain ⟨e, q, Fe, Fg, rfl, h1, h2, h3, h4, h5, h6, h7⟩ := H
 obtain ⟨k0, k1, k2, _⟩ := h4.cell
 have hwsz := h5.went key hk
 have hkd := s.e.access_kd key
 unfold Shd.access
 have HA := enAccess h5 key hk
 have hm1 := fun a w => enmAccess s.e.kd_lt a w
 have hm2 := fun x w => encAccess s.e.kd_lt x w
 obtain ⟨ty, hty⟩ : ∃ ty, kTy s.e.kd = ty := ⟨_, rfl⟩
 obtain ⟨fa, hfa⟩ : ∃ f, kAccess s.e.kd = f := ⟨_, rfl⟩
 simp only [hty] at hm1
 rw [hty] at h4 k1
 simp only [hfa] at hm1 hm2
 rw [hfa] at HA
 obtain ⟨hit, l, s', hacc⟩ : ∃ hit l s', s.e.access key = (hit, l, s') := ⟨_, _, _, rfl⟩
 rw [hacc] at HA hwsz hkd ⊢
 simp only at hwsz hkd ⊢
 rw [← hkd] at hty
 have HTY := Lib.hid hty
 obtain ⟨hl100, hlsz⟩ := hwsz
 have HA := Lib.hid HA
 have HS := Lib.hid hlsz
 have HLT := Lib.hid hlt
 clear hacc h5 k0 hlsz hlt hty hfa hkd
 obtain ⟨back, hback⟩ : ∃ b, (!hit && decide (key ∈ s.g.L)) = b := ⟨_, rfl⟩
 rw [hback]
 obtain ⟨g1, hg1⟩ : ∃ g, (bif hit then s.g else s.g.take key) = g := ⟨_, rfl⟩
 rw [hg1]
 have hgl := h7.le
 have hg2 := h7.r2
 have hi1 : g1.Inv := by rw [← hg1]; cases hit; exact h7.take key; exact h7
 have HG1 := Lib.hid (And.intro hg1 hi1)
 have HB := Lib.hid hback
 have HI := Lib.hid h7
 clear hg1 hi1 hback h7
 have hmid : ∀ (hit : Bool) (w1 w2 : World) (Fg2 : List Nat), True := fun _ _ _ _ => trivial
 clear hmid
 have HPOST := Lib.hid fun (v : Value) (w1 : World) (Fe1 : List Nat) (hgo : Gone w w1 v l) (he : EE w1 e Fe1 s') (hs1 : Sub Fe1 Fe w) (hf1 : Fr Fe w w1) (hd1 : Dis v.ownBlock.toList Fe1) (w2 w3 w4 w5 : World) (Fg2 Fg3 : List Nat)
   (hg2 : GhRep w2 q Fg2 g1) (hs2 : Sub Fg2 Fg w1) (hf2 : Fr Fg w1 w2) (hb4 : ShB w4 p s.kind (.iface ty (.pointer (some ⟨e, 0, none⟩))) q (s.ep.count hit back) (s.tot.count hit back)) (hf3 : Fr [p] w2 w3) (hf4 : Fr [p] w3 w4)
   (hg5 : GhRep w5 q Fg3 (l.foldl Gh.add g1)) (hs5 : Sub Fg3 Fg2 w4) (hf5 : Fr Fg2 w4 w5) => sh_after (s := s) HLT.out h1 h2 h3 hgo.2 he hs1 hf1 hd1 hs2 hf2 hb4 hf3 hf4 hg5 hs5 hf5 (foldl_inv HG1.out.2 HS.out) (by rw [HTY.out])
 have HFG := Lib.hid fun (v : Value) (w1 : World) (hgo : Gone w w1 v l) (w2 : World) (Fg2 : List Nat) (hs2 : Sub Fg2 Fg w1) => (fun b hb hb2 => by
  have hbl := hgo.1.lt b hb
  have hbg := hgo.2 b hb
  rcases hs2 b hb2 with h | h
  ·have := HLT.out b (by simp [h]); omega
  ·omega : Dis v.ownBlock.toList Fg2)
 go_enter Tryz.func18, Tryz.ntmps18
 go_wp2_with fail
 refine HA.out.mono ?_
 rintro en w1 ⟨v, Fe1, rfl, hgo, he, hs1, hf1, hd1⟩
 have k1 := cell_fr hf1 k1 h1
 have k2 := cell_fr hf1 k2 h1
 have h4 := hf1.get h4 h1
 have h6 := h6.fr hf1 h3.symm
 obtain ⟨va, vc, hv⟩ := hgo.1.form
 have HGO := Lib.hid (And.intro hgo (And.intro he (And.intro hs1 (And.intro hf1 hd1))))
 clear hgo he hs1 hf1 hd1
 have HX : Hid (hit = true → ∃ Fg2, GhRep w1 q Fg2 g1 ∧ Sub Fg2 Fg w1 ∧ Fr Fg w1 w1 ∧ back = false) := fun ht => by
  subst ht
  refine ⟨Fg, ?_, Sub.refl _ _, Fr.refl _ _, ?_⟩
  ·rw [← HG1.out.1]; exact h6
  ·rw [← HB.out]; rfl
 have HY : Hid (hit = false → Calls Tryz.prog 75 #[.pointer (some ⟨q, 0, none⟩), .string key] w1 fun en w2 => en = .returned (.bool back) ∧ ∃ Fg2, GhRep w2 q Fg2 g1 ∧ Sub Fg2 Fg w1 ∧ Fr Fg w1 w2) := fun ht => by
  subst ht
  refine (gtake h6 (by omega) key hk (b := back) (by rw [← HB.out]; simp)).mono ?_
  rintro en w' ⟨rfl, Fg2, a1, a2, a3⟩
  exact ⟨rfl, Fg2, by rw [← HG1.out.1]; exact a1, a2, a3⟩
 have H4 := Lib.hid h4
 clear h4 h6
 cases hit with
 | true =>
  subst hv
  go_wp2_with (fail)
  obtain ⟨Fg2, b1, b2, b3, hbk⟩ := HX.out (by simp)
  subst hbk
  have hw2 : ∃ w2, w2 = w1 := ⟨_, rfl⟩
  obtain ⟨w2, hw2⟩ := hw2
  rw [← hw2] at b1
  replace b3 : Fr Fg w1 w2 := by rw [hw2]; exact Fr.refl _ _
  rw [← hw2]
  have h4 := H4.out
  rw [← hw2] at h4
  have HGP := Lib.hid (And.intro b1 (And.intro b2 b3))
  clear hw2 b1 b2 b3 HX HY H4 HB
  go_wp2_with fail
  refine (scount3 h4 true false).mono ?_
  rintro en w3 ⟨rfl, h4, f3⟩
  go_wp2_with fail
  refine (scount6 h4 true false).mono ?_
  rintro en w4 ⟨rfl, h4, f4⟩
  obtain ⟨_, _, k2, _⟩ := h4.cell
  have HF34 := Lib.hid (And.intro f3 (And.intro f4 h4))
  clear f3 f4 h4 k1
  have hg0 : GhRep w4 q Fg2 g1 := by
   have hn : p ∉ Fg2 := fun hb => by
    rcases HGP.out.2.1 p hb with h | h
    ·exact h2 h
    ·have := HLT.out p (by simp); have := HGO.out.2.2.2.1.size; omega
   have dp : Dis Fg2 [p] := fun b hb hx => by simp at hx; subst hx; exact hn hb
   exact (HGP.out.1.fr HF34.out.1 dp).fr HF34.out.2.1 dp
  have hn2 : p ∉ Fg2 := fun hb => by
   rcases HGP.out.2.1 p hb with h | h
   ·exact h2 h
   ·have := HLT.out p (by simp); have := HGO.out.2.2.2.1.size; omega
  have HSL := Lib.hid ((((HGO.out.1.1.fr HGP.out.2.2 (HFG.out _ _ HGO.out.1 w1 Fg (Sub.refl _ _))).fr HF34.out.1 (fun b hb hx => by simp at hx; subst hx; have := HGO.out.1.2 _ hb; have := HLT.out b (by simp); omega)).fr HF34.out.2.1 (fun b hb hx => by simp at hx; subst hx; have := HGO.out.1.2 _ hb; have := HLT.out b (by simp); omega)))
  go_wp2_with fail
  go_loopw [45] (fun u45 wr => ∃ (j : Nat) (Fg3 : List Nat), j ≤ l.length ∧ u45 = .int .i64 j ∧ Hid (GhRep wr q Fg3 ((l.take j).foldl Gh.add g1)) ∧ Hid (Sub Fg3 Fg2 w4) ∧ Fr Fg2 w4 wr) (fun u45 _ => l.length - (intOf u45).toNat)
  case atStart => exact ⟨0, Fg2, Nat.zero_le _, rfl, hg0, Sub.refl _ _, Fr.refl _ _⟩
  case round =>
   obtain ⟨j, Fg3, hj, rfl, hgj, hsj, hfj⟩ := hrel
   by_cases hlt : j < l.length
   ·have k2 := cell_fr hfj k2 hn2
    have hkz := HS.out l[j] (by simp)
    have hsl := HSL.out
    obtain ⟨ga, oa, ca, hva, _⟩ := hsl.pos (by omega)
    simp at hva
    obtain ⟨rfl, rfl⟩ := hva
    have x0 := hsl.cell (j := j) (u := .string l[j]) (by simp [hlt])
    have x0 := cell_fr hfj x0 (HFG.out _ _ HGO.out.1 w1 Fg2 HGP.out.2.1 ga (by simp [Value.ownBlock]))
    have hinv := foldl_inv (g := g1) HG1.out.2 (l := l.take j) (fun k hk => HS.out k (List.mem_of_mem_take hk))
    have HADD := Lib.hid (gadd hgj.out hinv l[j] hkz)
    clear hsl hinv hg0
    go_wp2_with fail
    refine HADD.out.mono ?_
    rintro en w5 ⟨_, _, rfl, Fg4, a1, a2, a3⟩
    have fin1 : Hid (GhRep w5 q Fg4 ((l.take (j + 1)).foldl Gh.add g1)) := by
     show GhRep _ _ _ _
     rw [fold_snoc _ _ _ hlt]; exact a1
    have fin2 : Hid (Sub Fg4 Fg2 w4) := hsj.out.fr hfj a2
    have fin3 : Fr Fg2 w4 w5 := hfj.via hsj.out a3
    clear a1 a2 a3
    go_wp2_with fail
    exact ⟨⟨j + 1, Fg4, by omega, by go_num, fin1, fin2, fin3⟩, by simp [intOf]; omega⟩
   ·have : j = l.length := by omega
    subst this
    rw [List.take_length] at hgj
    clear hg0
    go_wp2
    go_ret
    exact ⟨rfl, HPOST.out _ _ _ HGO.out.1 HGO.out.2.1 HGO.out.2.2.1 HGO.out.2.2.2.1 HGO.out.2.2.2.2 _ _ _ _ _ _ HGP.out.1 HGP.out.2.1 HGP.out.2.2 HF34.out.2.2 HF34.out.1 HF34.out.2.1 hgj.out hsj.out hfj⟩
 | false =>
  subst hv
  go_wp2_with fail
  refine (HY.out (by simp)).mono ?_
  rintro en w2 ⟨rfl, Fg2, b1, b2, b3⟩
  have h4 := b3.get H4.out h2
  have HGP := Lib.hid (And.intro b1 (And.intro b2 b3))
  have k1 := cell_fr b3 k1 h2
  have k2 := cell_fr b3 k2 h2
  clear b1 b2 b3 HX HY H4 HB
  go_wp2_with fail
  refine (scount3 h4 false back).mono ?_
  rintro en w3 ⟨rfl, h4, f3⟩
  go_wp2_with fail
  refine (scount6 h4 false back).mono ?_
  rintro en w4 ⟨rfl, h4, f4⟩
  obtain ⟨_, _, k2, _⟩ := h4.cell
  have HF34 := Lib.hid (And.intro f3 (And.intro f4 h4))
  clear f3 f4 h4 k1
  have hg0 : GhRep w4 q Fg2 g1 := by
   have hn : p ∉ Fg2 := fun hb => by
    rcases HGP.out.2.1 p hb with h | h
    ·exact h2 h
    ·have := HLT.out p (by simp); have := HGO.out.2.2.2.1.size; omega
   have dp : Dis Fg2 [p] := fun b hb hx => by simp at hx; subst hx; exact hn hb
   exact (HGP.out.1.fr HF34.out.1 dp).fr HF34.out.2.1 dp
  have hn2 : p ∉ Fg2 := fun hb => by
   rcases HGP.out.2.1 p hb with h | h
   ·exact h2 h
   ·have := HLT.out p (by simp); have := HGO.out.2.2.2.1.size; omega
  have HSL := Lib.hid ((((HGO.out.1.1.fr HGP.out.2.2 (HFG.out _ _ HGO.out.1 w1 Fg (Sub.refl _ _))).fr HF34.out.1 (fun b hb hx => by simp at hx; subst hx; have := HGO.out.1.2 _ hb; have := HLT.out b (by simp); omega)).fr HF34.out.2.1 (fun b hb hx => by simp at hx; subst hx; have := HGO.out.1.2 _ hb; have := HLT.out b (by simp); omega)))
  go_wp2_with fail
  go_loopw [45] (fun u45 wr => ∃ (j : Nat) (Fg3 : List Nat), j ≤ l.length ∧ u45 = .int .i64 j ∧ Hid (GhRep wr q Fg3 ((l.take j).foldl Gh.add g1)) ∧ Hid (Sub Fg3 Fg2 w4) ∧ Fr Fg2 w4 wr) (fun u45 _ => l.length - (intOf u45).toNat)
  case atStart => exact ⟨0, Fg2, Nat.zero_le _, rfl, hg0, Sub.refl _ _, Fr.refl _ _⟩
  case round =>
   obtain ⟨j, Fg3, hj, rfl, hgj, hsj, hfj⟩ := hrel
   by_cases hlt : j < l.length
   ·have k2 := cell_fr hfj k2 hn2
    have hkz := HS.out l[j] (by simp)
    have hsl := HSL.out
    obtain ⟨ga, oa, ca, hva, _⟩ := hsl.pos (by omega)
    simp at hva
    obtain ⟨rfl, rfl⟩ := hva
    have x0 := hsl.cell (j := j) (u := .string l[j]) (by simp [hlt])
    have x0 := cell_fr hfj x0 (HFG.out _ _ HGO.out.1 w1 Fg2 HGP.out.2.1 ga (by simp [Value.ownBlock]))
    have hinv := foldl_inv (g := g1) HG1.out.2 (l := l.take j) (fun k hk => HS.out k (List.mem_of_mem_take hk))
    have HADD := Lib.hid (gadd hgj.out hinv l[j] hkz)
    clear hsl hinv hg0
    go_wp2_with fail
    refine HADD.out.mono ?_
    rintro en w5 ⟨_, _, rfl, Fg4, a1, a2, a3⟩
    have fin1 : Hid (GhRep w5 q Fg4 ((l.take (j + 1)).foldl Gh.add g1)) := by
     show GhRep _ _ _ _
     rw [fold_snoc _ _ _ hlt]; exact a1
    have fin2 : Hid (Sub Fg4 Fg2 w4) := hsj.out.fr hfj a2
    have fin3 : Fr Fg2 w4 w5 := hfj.via hsj.out a3
    clear a1 a2 a3
    go_wp2_with fail
    exact ⟨⟨j + 1, Fg4, by omega, by go_num, fin1, fin2, fin3⟩, by simp [intOf]; omega⟩
   ·have : j = l.length := by omega
    subst this
    rw [List.take_length] at hgj
    clear hg0
    go_wp2
    go_ret
    exact ⟨rfl, HPOST.out _ _ _ HGO.out.1 HGO.out.2.1 HGO.out.2.2.1 HGO.out.2.2.2.1 HGO.out.2.2.2.2 _ _ _ _ _ _ HGP.out.1 HGP.out.2.1 HGP.out.2.2 HF34.out.2.2 HF34.out.1 HF34.out.2.1 hgj.out hsj.out hfj⟩
end Go.Proofs.YtphlancijlljcaaGreat
