/- The walks over tinylfu's engine: Access of a key that is not there; Access whole; New. -/
import Derived.Test.YtphlancijlljcaaGreatTiny4
set_option linter.unusedVariables false
set_option linter.unusedSimpArgs false
namespace Go.Proofs.YtphlancijlljcaaGreat
open Go.RowKit
attribute [local go_sem ↓] Go.wp_at_zero Go.wp_at_succ
def fitT (c : Nat) (k : Sk) (d : Dr) (K : Rows) : List ByteArray × Rows := ((⟨K, k, d, c⟩ : Tiny).fits.1, (⟨K, k, d, c⟩ : Tiny).fits.2.K)
theorem fitT_le {c : Nat} {k : Sk} {d : Dr} {K : Rows} (h : (K 0).length ≤ max 1 (c / 8)) : fitT c k d K = ([], K) := by
 unfold fitT Tiny.fits Tiny.window
 rw [if_neg (by simp only; omega)]
theorem admits_0 {c : Nat} {k : Sk} {d : Dr} {K : Rows} (hnd : RNd 3 K) (h0 : 0 < (K 0).length) : ((⟨K, k, d, c⟩ : Tiny).admits.2.K 0).length + 1 = (K 0).length ∧ tot 3 (⟨K, k, d, c⟩ : Tiny).admits.2.K ≤ tot 3 K ∧ (⟨K, k, d, c⟩ : Tiny).admits.1.length ≤ 1 ∧ ∀ x, x ∈ (⟨K, k, d, c⟩ : Tiny).admits.1 → x.size ≤ maxLen := by
 have hm := oldest_mem h0
 unfold Tiny.admits
 split
 ·have d0 := push_move hnd hm 1 0
  simp at d0
  exact ⟨by simp only; omega, by simp only; have := tot_move hnd (r := 1) hm (by decide) (by decide); omega, by simp, by simp⟩
 ·split
  ·have d0 := drop_len_in hnd hm 0
   simp at d0
   exact ⟨by simp only; omega, tot_drop _ _ _, by simp, by intro x hx; simp at hx; subst hx; exact oldest_sz hnd 0⟩
  ·rename_i h1 h2
   simp only [not_or] at h2
   obtain ⟨v1, v2⟩ := Tiny.victim_pos h2.1
   have hmv := oldest_mem v1
   have hne : oldest K 0 ≠ oldest K (⟨K, k, d, c⟩ : Tiny).victim := fun e => hnd.dis 0 (⟨K, k, d, c⟩ : Tiny).victim (fun e2 => h2.1 e2.symm) _ hm (e ▸ hmv)
   have hm2 : oldest K 0 ∈ dropK K (oldest K (⟨K, k, d, c⟩ : Tiny).victim) 0 := mem_dropK.2 ⟨hm, hne⟩
   have hd := push_move (hnd.drop (oldest K (⟨K, k, d, c⟩ : Tiny).victim)) hm2 1 0
   have he := drop_len_in hnd hmv 0
   simp at hd
   rw [if_neg (fun e => h2.1 e.symm)] at he
   refine ⟨by simp only at he ⊢; omega, ?_, by simp, by intro x hx; simp at hx; subst hx; exact oldest_sz hnd _⟩
   have e1 := tot_move (hnd.drop (oldest K (⟨K, k, d, c⟩ : Tiny).victim)) (r := 1) hm2 (by decide) (by decide)
   have e2 := tot_drop 3 K (oldest K (⟨K, k, d, c⟩ : Tiny).victim)
   simp only
   omega
section
variable {u : UC} {w w0 w1 : World} {F : List Nat} {K : Rows} {k : Sk} {d : Dr}
set_option maxHeartbeats 4000000 in
set_option maxRecDepth 100000 in
theorem uaccessN {c : Nat} {key : ByteArray} (H : UR u w F K k d) (hk : k.Inv) (hd : d.Inv) (hk2 : (noteK k d key).Inv) (hd2 : (noteD k d key).Inv) (ht : tot 3 K ≤ 50000) (hwb : u.wi ≤ 1024) (hw : u.wi = max 1 (c / 8)) (hma : u.ma = c - max 1 (c / 8)) (hz : key.size ≤ maxLen) (hp : (pushK K 0 key 0).length ≤ u.wi + 1) (hm : ∀ i, key ∉ K i) :
  Calls Tryz.prog 391 #[.pointer (some ⟨u.e, 0, none⟩), .string key] w (UARet u w F false (fitT c (noteK k d key) (noteD k d key) (pushK K 0 key)).1 (fitT c (noteK k d key) (noteD k d key) (pushK K 0 key)).2 (noteK k d key) (noteD k d key)) := by
 obtain ⟨i0, hii, hz0, hz1, hz2⟩ := info_parts2 infoStr
 obtain ⟨KR, hKR⟩ : ∃ x, fitT c (noteK k d key) (noteD k d key) (pushK K 0 key) = x := ⟨_, rfl⟩
 rw [hKR]
 have HKR := Lib.hid (And.intro hKR hp)
 have HIV := Lib.hid (And.intro hk2 hd2)
 have HWM := Lib.hid (And.intro hw hma)
 clear hKR hp hk2 hd2 hw hma
 have hnd := H.nd
 have HN := Lib.hid (unotes H hk hd key hz)
 have HM := Lib.hid (And.intro hnd hm)
 obtain ⟨k', hk'⟩ : ∃ x, noteK k d key = x := ⟨_, rfl⟩
 obtain ⟨d', hd'⟩ : ∃ x, noteD k d key = x := ⟨_, rfl⟩
 rw [hk', hd'] at HN HKR HIV ⊢
 clear H hk hd hnd hm hk' hd'
 go_enter Tryz.func391, Tryz.ntmps391
 go_wp2_with fail
 refine HN.out.mono ?_
 rintro en w1 ⟨rfl, h1, f1⟩
 have HH := Lib.hid h1
 have HF := Lib.hid f1
 obtain ⟨k0, k1, _, k3, _, k5, _, _⟩ := h1.cells
 clear h1 f1 HN
 go_wp2_with fail
 refine (HH.out.where key hz).mono ?_
 rintro en w2 ⟨r, rfl, har, f2⟩
 have HH2 := Lib.hid (HH.out.fr0 f2)
 have HF2 := Lib.hid (HF.out.same f2.nil)
 replace k0 := cell_fr f2 k0 (by simp)
 replace k1 := cell_fr f2 k1 (by simp)
 replace k3 := cell_fr f2 k3 (by simp)
 replace k5 := cell_fr f2 k5 (by simp)
 clear f2 HH HF
 have hr : r = -1 := by
  rcases har with ⟨i, hi4, rfl, hik⟩ | ⟨rfl, hno⟩
  ·exact absurd hik (HM.out.2 i)
  ·rfl
 subst hr
 clear har
 have htp := tot_push (K := K) (k := 3) (r := 0) (by decide) key
 go_wp2_with fail
 refine (HH2.out.push (by omega) (r := 0) (by decide) key hz).mono ?_
 rintro en w3 ⟨rfl, F3, h3, s3, g3⟩
 obtain ⟨K1, hK1⟩ : ∃ x, pushK K 0 key = x := ⟨_, rfl⟩
 rw [hK1] at h3 htp
 have hkr := HKR.out
 rw [hK1] at hkr
 have HG := Lib.hid (And.intro h3 (And.intro (s3.old HF2.out.size) (HF2.out.same g3)))
 have HKR2 := Lib.hid hkr
 clear h3 s3 g3 k0 k1 k3 k5 hK1 hkr HKR
 go_wp2_with fail
 go_loopg [7] 1 (fun gg u7 wr => ∃ (Kc : Rows) (Fc : List Nat) (l : List ByteArray) (a : Option Addr) (m cp : Nat), Aside ((l ++ (fitT c k' d' Kc).1, (fitT c k' d' Kc).2) = KR ∧ (Kc 0).length ≤ u.wi + gg) ∧ gg ≤ 1 ∧ l.length + gg ≤ 1 ∧ m = l.length ∧ tot 3 Kc ≤ 60000 ∧ u7 = .slice a m cp ∧ Hid (Gone w wr (.slice a m cp) l ∧ Dis (Value.slice a m cp).ownBlock.toList Fc) ∧ UR u wr Fc Kc k' d' ∧ Sub Fc F w ∧ Fr F w wr)
 case atStart => exact ⟨K1, F3, [], none, 0, 0, ⟨by rw [List.nil_append]; exact HKR2.out.1, HKR2.out.2⟩, by omega, by simp, rfl, by omega, rfl, ⟨Gone.nil _ _, by intro b hb; simp [Value.ownBlock] at hb⟩, HG.out.1, HG.out.2.1, HG.out.2.2⟩
 case round =>
  obtain ⟨Kc, Fc, l, a, m, cp, hA, hgk, hlg, hml, htc, rfl, hgn, H, hsc, hgc⟩ := hrel
  obtain ⟨k0, k1, _, k3, _, _, _, _⟩ := H.cells
  have hnd := H.nd
  obtain ⟨n0, hn0⟩ : ∃ n, (Kc 0).length = n := ⟨_, rfl⟩
  have hb0 : n0 ≤ 60000 := by rw [← hn0]; exact Nat.le_trans (len_tot (by omega)) htc
  have HN0 := Lib.hid hn0
  have HML := Lib.hid hml
  have hm1 : m ≤ 1 := by omega
  have HC := Lib.hid (And.intro H (And.intro hsc (And.intro hgc hnd)))
  clear H hsc hgc hnd hn0 hml
  by_cases hlt : u.wi < n0
  ·have q1 : (u.wi : Int) < (n0 : Int) := by omega
   go_wp2_with fail
   first
    | (go_region_held3 (fun w' => w'.cell? ⟨u.e, 0, none⟩ = some (.slice (some ⟨u.g, 0, none⟩) 3 u.cap) ∧ w'.cell? ⟨u.e, 1, none⟩ = some (.pointer (some ⟨u.x, 0, none⟩)) ∧ w'.cell? ⟨u.e, 3, none⟩ = some (.int .i64 (u.wi : Nat)))
      (first
       | exact ⟨k0, k1, k3⟩
       | exact ⟨cell_fr (by first | assumption | exact (Fr.refl [] _).drew | exact Fr.alloc (by assumption) _ | exact ((Fr.refl [] _).drew).alloc _) k0 (by simp), cell_fr (by first | assumption | exact (Fr.refl [] _).drew | exact Fr.alloc (by assumption) _ | exact ((Fr.refl [] _).drew).alloc _) k1 (by simp), cell_fr (by first | assumption | exact (Fr.refl [] _).drew | exact Fr.alloc (by assumption) _ | exact ((Fr.refl [] _).drew).alloc _) k3 (by simp)⟩
       | exact ⟨cell_fr (((Fr.refl [] _).drew).same (by assumption)) k0 (by simp), cell_fr (((Fr.refl [] _).drew).same (by assumption)) k1 (by simp), cell_fr (((Fr.refl [] _).drew).same (by assumption)) k3 (by simp)⟩)
      (first
       | (go_at_call 404; refine ((HC.out.1.fr0 ((Fr.refl [] _).drew)).many1 0 (by decide) HN0.out).mono ?_; rintro en w4 ⟨rfl, f4⟩)))
    | fail
   have f04 : Fr [] wr w4 := ((Fr.refl [] _).drew).same f4
   have HF4 := Lib.hid f04
   have HC4 := Lib.hid (HC.out.1.fr0 f04)
   have hga := hgn.out.1.fr0 f04
   have HGA := Lib.hid hga
   clear k0 k1 k3 f4 f04 hga
   have hab := admits_0 (c := c) (k := k') (d := d') HC.out.2.2.2 (by rw [HN0.out]; omega)
   have hua := uadmits (s := ⟨Kc, k', d', c⟩) HC4.out HIV.out.1 HIV.out.2 (by show tot 3 Kc ≤ _; omega) (by show u.ma = c - max 1 (c / 8); exact HWM.out.2)
   have hfit : fitT c k' d' Kc = ((⟨Kc, k', d', c⟩ : Tiny).admits.1, (⟨Kc, k', d', c⟩ : Tiny).admits.2.K) := by
    unfold fitT Tiny.fits Tiny.window
    have h1 := HN0.out
    have h2 := HWM.out.1
    rw [if_pos (by simp only; omega)]
   obtain ⟨l2, hl2⟩ : ∃ x, (⟨Kc, k', d', c⟩ : Tiny).admits.1 = x := ⟨_, rfl⟩
   obtain ⟨K2, hK2⟩ : ∃ x, (⟨Kc, k', d', c⟩ : Tiny).admits.2.K = x := ⟨_, rfl⟩
   rw [hl2, hK2] at hua hfit hab
   have HUA := Lib.hid hua
   have HAB := Lib.hid hab
   have HFT := Lib.hid hfit
   have hl21 : l2.length ≤ 1 := hab.2.2.1
   clear hab hua hfit hl2 hK2
   go_wp2_with fail
   refine HUA.out.mono ?_
   rintro en w5 ⟨v2, F5, rfl, hg5, h5, s5, f5, d5⟩
   obtain ⟨a2, c2, hv2⟩ := hg5.1.form
   subst hv2
   have HS1 := Lib.hid (HGA.out.1.fr f5 hgn.out.2)
   have H5 := Lib.hid (And.intro h5 (And.intro (s5.old HF4.out.size) (And.intro (HF4.out.nil.same f5) d5)))
   have hcaps := hg5.1
   have HS2 := Lib.hid hcaps
   clear hg5 h5 s5 f5 d5 hcaps
   go_wp2_with (at_builtin; refine wpList_app rfl _ _ _ _ rfl Tryz.underlying22 hii hz0 hz1 hz2 rfl (.slice a m cp) _ m l2.length (l.map Value.string) (l2.map Value.string) rfl rfl ?hsl ?hone ?src ?c3 ?c4 _ rfl ?_)
   case hsl => have := HS1.out; rw [← HML.out] at this; exact this
   case hone => intro u hu; obtain ⟨_, _, rfl⟩ := List.mem_map.1 hu; rfl
   case src => refine HS2.out.src Tryz.underlying22 ?_; intro u hu; obtain ⟨_, _, rfl⟩ := List.mem_map.1 hu; rfl
   case c3 => unfold maxLen; omega
   case c4 => omega
   intro b' cp2 w6 hs6 hf6 hat
   have hdo : Dis (Value.slice a m cp).ownBlock.toList F5 := fun q hq hx => by
    rcases H5.out.2.1 q hx with h | h
    ·exact hgn.out.2 q hq h
    ·have := hgn.out.1.1.lt q hq; omega
   have h6 : UR u w6 F5 K2 k' d' := H5.out.1.fr hf6 hdo.symm
   have hgo6 : Gone w w6 (.slice b' (m + l2.length) cp2) (l ++ l2) := by
    refine ⟨?_, fun q hq => ?_⟩
    ·have e : (l ++ l2).length = m + l2.length := by rw [List.length_append, HML.out]
     rw [e, List.map_append]; exact hs6
    ·rcases hat with h | h
     ·rw [h] at hq; exact hgn.out.1.2 q hq
     ·rw [h] at hq; simp at hq; have := HC.out.2.2.1.size; have := H5.out.2.2.1.size; omega
   have hd6 : Dis (Value.slice b' (m + l2.length) cp2).ownBlock.toList F5 := fun q hq hx => by
    rcases hat with h | h
    ·rw [h] at hq; exact hdo q hq hx
    ·rw [h] at hq; simp at hq; have := H5.out.1.lt q hx; omega
   have hfr6 : Fr F w w6 := (HC.out.2.2.1.via HC.out.2.1 H5.out.2.2.1).fresh hf6 hgn.out.1.2
   have hsb6 : Sub F5 F w := HC.out.2.1.fr HC.out.2.2.1 H5.out.2.1
   have hk2 : (K2 0).length ≤ max 1 (c / 8) := by have h1 := HAB.out.1; have h2 := HN0.out; have h3 := hA.out.2; have h4 := HWM.out.1; omega
   have hA6 : ((l ++ l2) ++ (fitT c k' d' K2).1, (fitT c k' d' K2).2) = KR := by
    rw [fitT_le hk2, List.append_nil, ← hA.out.1, HFT.out]
   have hgk0 : gk = 1 := by
    have h1 := HN0.out
    have h3 := hA.out.2
    omega
   have hl0 : l = [] := List.eq_nil_of_length_eq_zero (by omega)
   have ht6 := HAB.out.2.1
   have hk3 : (K2 0).length ≤ u.wi + 0 := by rw [HWM.out.1]; exact hk2
   have HFIN := Lib.hid (And.intro hA6 (And.intro hk3 (And.intro hgo6 (And.intro hd6 (And.intro h6 (And.intro hsb6 hfr6))))))
   clear hs6 hf6 hat hdo h6 hgo6 hd6 hfr6 hsb6 hk2 hA6 hk3
   go_wp2_with fail
   go_roundg 0
   case measure => omega
   case rel => exact ⟨K2, F5, l ++ l2, b', m + l2.length, cp2, ⟨HFIN.out.1, HFIN.out.2.1⟩, by omega, by rw [List.length_append, hl0]; simpa using hl21, by rw [List.length_append, HML.out], by omega, rfl, ⟨HFIN.out.2.2.1, HFIN.out.2.2.2.1⟩, HFIN.out.2.2.2.2.1, HFIN.out.2.2.2.2.2.1, HFIN.out.2.2.2.2.2.2⟩
  ·have q1 : (n0 : Int) ≤ (u.wi : Int) := by omega
   go_wp2_with fail
   first
    | (go_region_held3 (fun w' => w'.cell? ⟨u.e, 0, none⟩ = some (.slice (some ⟨u.g, 0, none⟩) 3 u.cap) ∧ w'.cell? ⟨u.e, 1, none⟩ = some (.pointer (some ⟨u.x, 0, none⟩)) ∧ w'.cell? ⟨u.e, 3, none⟩ = some (.int .i64 (u.wi : Nat)))
      (first
       | exact ⟨k0, k1, k3⟩
       | exact ⟨cell_fr (by first | assumption | exact (Fr.refl [] _).drew | exact Fr.alloc (by assumption) _ | exact ((Fr.refl [] _).drew).alloc _) k0 (by simp), cell_fr (by first | assumption | exact (Fr.refl [] _).drew | exact Fr.alloc (by assumption) _ | exact ((Fr.refl [] _).drew).alloc _) k1 (by simp), cell_fr (by first | assumption | exact (Fr.refl [] _).drew | exact Fr.alloc (by assumption) _ | exact ((Fr.refl [] _).drew).alloc _) k3 (by simp)⟩
       | exact ⟨cell_fr (((Fr.refl [] _).drew).same (by assumption)) k0 (by simp), cell_fr (((Fr.refl [] _).drew).same (by assumption)) k1 (by simp), cell_fr (((Fr.refl [] _).drew).same (by assumption)) k3 (by simp)⟩)
      (first
       | (go_at_call 404; refine ((HC.out.1.fr0 ((Fr.refl [] _).drew)).many1 0 (by decide) HN0.out).mono ?_; rintro en w4 ⟨rfl, f4⟩)))
    | fail
   have f04 : Fr [] wr w4 := ((Fr.refl [] _).drew).same f4
   have hk2 : (Kc 0).length ≤ max 1 (c / 8) := by have h2 := HN0.out; have h4 := HWM.out.1; omega
   have hA6 : (l, Kc) = KR := by
    have := hA.out.1
    rw [fitT_le hk2, List.append_nil] at this; exact this
   have HFIN := Lib.hid (And.intro hA6 (And.intro (hgn.out.1.fr0 f04) (And.intro (HC.out.1.fr0 f04) (And.intro HC.out.2.1 (HC.out.2.2.1.same f04.nil)))))
   clear k0 k1 k3 f4 f04 hk2 hA6
   go_wp2
   go_ret2
   rw [← HFIN.out.1]
   exact ⟨_, Fc, rfl, HFIN.out.2.1, HFIN.out.2.2.1, HFIN.out.2.2.2.1, HFIN.out.2.2.2.2, hgn.out.2⟩
end
end Go.Proofs.YtphlancijlljcaaGreat
