/- The walks over tinylfu's engine: Access of keys that are there. -/
import Derived.Test.YtphlancijlljcaaGreatTiny3
set_option linter.unusedVariables false
set_option linter.unusedSimpArgs false
namespace Go.Proofs.YtphlancijlljcaaGreat
open Go.RowKit
attribute [local go_sem ↓] Go.wp_at_zero Go.wp_at_succ
section
variable {u : UC} {w w0 w1 : World} {F : List Nat} {K : Rows} {k : Sk} {d : Dr}
theorem uadmits {s : Tiny} (H : UR u w F s.K s.k s.d) (hk : s.k.Inv) (hd : s.d.Inv) (ht : tot 3 s.K ≤ 70000) (hm : u.ma = s.main) :
  Calls Tryz.prog 406 #[.pointer (some ⟨u.e, 0, none⟩)] w (UGRet u w F s.admits.1 s.admits.2.K s.k s.d) := by
 unfold Tiny.admits
 by_cases h1 : (s.K 1).length + (s.K 2).length < s.main
 ·rw [if_pos h1]; exact uadmits1 H ht (by omega)
 ·rw [if_neg h1]
  by_cases h2 : s.victim = 0
  ·rw [if_pos (.inl h2)]; exact uadmits2 H ht (by omega) h2
  ·by_cases h3 : s.often (oldest s.K 0) ≤ s.often (oldest s.K s.victim)
   ·rw [if_pos (.inr h3)]; exact uadmits3 H hk hd ht (by omega) h2 h3
   ·rw [if_neg (by rintro (h | h); exact h2 h; exact h3 h)]; exact uadmits4 H hk hd ht (by omega) h2 (by simpa [Tiny.often, oft, Tiny.victim, vict] using h3)
/-- What Access hands back. -/
def UARet (u : UC) (w : World) (F : List Nat) (b : Bool) (l : List ByteArray) (K : Rows) (k : Sk) (d : Dr) (en : Ending) (w' : World) : Prop :=
 ∃ v F', en = .returned (.tuple #[.bool b, v]) ∧ Gone w w' v l ∧ UR u w' F' K k d ∧ Sub F' F w ∧ Fr F w w' ∧ Dis v.ownBlock.toList F'
set_option maxRecDepth 100000 in
theorem uaccess0 (H : UR u w F K k d) (hk : k.Inv) (hd : d.Inv) (ht : tot 3 K ≤ 60000) (key : ByteArray) (hz : key.size ≤ maxLen) (hm : key ∈ K 0) :
  Calls Tryz.prog 391 #[.pointer (some ⟨u.e, 0, none⟩), .string key] w (UARet u w F true [] (pushK K 0 key) (noteK k d key) (noteD k d key)) := by
 have hnd := H.nd
 have HN := Lib.hid (unotes H hk hd key hz)
 have HM := Lib.hid (And.intro hnd hm)
 obtain ⟨k', hk'⟩ : ∃ x, noteK k d key = x := ⟨_, rfl⟩
 obtain ⟨d', hd'⟩ : ∃ x, noteD k d key = x := ⟨_, rfl⟩
 rw [hk', hd'] at HN ⊢
 clear H hk hd hnd hm hk' hd'
 go_enter Tryz.func391, Tryz.ntmps391
 go_wp2_with fail
 refine HN.out.mono ?_
 rintro en w1 ⟨rfl, h1, f1⟩
 have HH := Lib.hid h1
 have HF := Lib.hid f1
 obtain ⟨k0, k1, _, k3, _, k5, _, _⟩ := h1.cells
 clear h1 f1 HN
 go_wp2_with fail
 refine (HH.out.where key hz).mono ?_
 rintro en w2 ⟨r, rfl, har, f2⟩
 have HH2 := Lib.hid (HH.out.fr0 f2)
 have HF2 := Lib.hid (HF.out.same f2.nil)
 replace k0 := cell_fr f2 k0 (by simp)
 replace k1 := cell_fr f2 k1 (by simp)
 replace k3 := cell_fr f2 k3 (by simp)
 replace k5 := cell_fr f2 k5 (by simp)
 clear f2 HH HF
 have hr : r = 0 := by
  obtain ⟨hn, hm⟩ := HM.out
  rcases har with ⟨i, hi4, rfl, hik⟩ | ⟨rfl, hno⟩
  ·by_cases h : i = 0
   ·subst h; rfl
   ·exact absurd hik (hn.dis 0 i (Ne.symm h) _ hm)
  ·exact absurd hm (hno 0)
 subst hr
 clear har
 go_wp2_with fail
 refine (HH2.out.push (by omega) (r := 0) (by decide) key hz).mono ?_
 rintro en w3 ⟨rfl, F3, h3, s3, g3⟩
 have HG := Lib.hid (And.intro h3 (And.intro (s3.old HF2.out.size) (HF2.out.same g3)))
 clear h3 s3 g3 k0 k1 k3 k5
 go_wp2
 go_ret2
 exact ⟨_, F3, rfl, Gone.nil _ _, HG.out.1, HG.out.2.1, HG.out.2.2, by intro b hb; simp [Value.ownBlock] at hb⟩
def demK (pr : Nat) (K : Rows) : Rows := if pr < (K 2).length then pushK K 1 (oldest K 2) else K
theorem demK_le {pr : Nat} {K : Rows} (h : (K 2).length ≤ pr) : demK pr K = K := by unfold demK; rw [if_neg (by omega)]
theorem dem_step {K : Rows} {pr : Nat} (hnd : RNd 3 K) (h : pr < (K 2).length) (h2 : (K 2).length ≤ pr + 1) : (pushK K 1 (oldest K 2) 2).length ≤ pr ∧ demK pr (pushK K 1 (oldest K 2)) = demK pr K := by
 have hm := oldest_mem (K := K) (r := 2) (by omega)
 have d2 := push_move hnd hm 1 2
 simp at d2
 have h3 : (pushK K 1 (oldest K 2) 2).length ≤ pr := by omega
 refine ⟨h3, ?_⟩
 rw [demK_le h3]
 unfold demK
 rw [if_pos h]
set_option maxHeartbeats 4000000 in
set_option maxRecDepth 100000 in
theorem uaccess12 (H : UR u w F K k d) (hk : k.Inv) (hd : d.Inv) (ht : tot 3 K ≤ 50000) (hpb : u.pr ≤ 1024) (key : ByteArray) (hz : key.size ≤ maxLen) (hp : (pushK K 2 key 2).length ≤ u.pr + 1) {j : Nat} (hj : j = 1 ∨ j = 2) (hm : key ∈ K j) :
  Calls Tryz.prog 391 #[.pointer (some ⟨u.e, 0, none⟩), .string key] w (UARet u w F true [] (demK u.pr (pushK K 2 key)) (noteK k d key) (noteD k d key)) := by
 obtain ⟨KR, hKR⟩ : ∃ x, demK u.pr (pushK K 2 key) = x := ⟨_, rfl⟩
 rw [hKR]
 have HKR := Lib.hid (And.intro hKR hp)
 clear hKR hp
 have hnd := H.nd
 have HN := Lib.hid (unotes H hk hd key hz)
 have HM := Lib.hid (And.intro hnd hm)
 obtain ⟨k', hk'⟩ : ∃ x, noteK k d key = x := ⟨_, rfl⟩
 obtain ⟨d', hd'⟩ : ∃ x, noteD k d key = x := ⟨_, rfl⟩
 rw [hk', hd'] at HN ⊢
 clear H hk hd hnd hm hk' hd'
 go_enter Tryz.func391, Tryz.ntmps391
 go_wp2_with fail
 refine HN.out.mono ?_
 rintro en w1 ⟨rfl, h1, f1⟩
 have HH := Lib.hid h1
 have HF := Lib.hid f1
 obtain ⟨k0, k1, _, k3, _, k5, _, _⟩ := h1.cells
 clear h1 f1 HN
 go_wp2_with fail
 refine (HH.out.where key hz).mono ?_
 rintro en w2 ⟨r, rfl, har, f2⟩
 have HH2 := Lib.hid (HH.out.fr0 f2)
 have HF2 := Lib.hid (HF.out.same f2.nil)
 replace k0 := cell_fr f2 k0 (by simp)
 replace k1 := cell_fr f2 k1 (by simp)
 replace k3 := cell_fr f2 k3 (by simp)
 replace k5 := cell_fr f2 k5 (by simp)
 clear f2 HH HF
 have hr : r = (j : Int) := by
  obtain ⟨hn, hm⟩ := HM.out
  rcases har with ⟨i, hi4, rfl, hik⟩ | ⟨rfl, hno⟩
  ·by_cases h : i = j
   ·subst h; rfl
   ·exact absurd hik (hn.dis j i (Ne.symm h) _ hm)
  ·exact absurd hm (hno j)
 subst hr
 clear har
 have htp := tot_push (K := K) (k := 3) (r := 2) (by decide) key
 rcases hj with rfl | rfl
 all_goals
  go_wp2_with fail
  refine (HH2.out.push (by omega) (r := 2) (by decide) key hz).mono ?_
  rintro en w3 ⟨rfl, F3, h3, s3, g3⟩
  obtain ⟨K1, hK1⟩ : ∃ x, pushK K 2 key = x := ⟨_, rfl⟩
  rw [hK1] at h3 htp
  have hkr := HKR.out
  rw [hK1] at hkr
  have HG := Lib.hid (And.intro h3 (And.intro (s3.old HF2.out.size) (HF2.out.same g3)))
  have HKR2 := Lib.hid hkr
  clear h3 s3 g3 k0 k1 k3 k5 hK1 hkr HKR
  go_wp2_with fail
  go_loopg [] 1 (fun gg wr => ∃ (Kc : Rows) (Fc : List Nat), Aside (demK u.pr Kc = KR ∧ (Kc 2).length ≤ u.pr + gg) ∧ gg ≤ 1 ∧ tot 3 Kc ≤ 60000 ∧ UR u wr Fc Kc k' d' ∧ Sub Fc F w ∧ Fr F w wr)
  case atStart => exact ⟨K1, F3, HKR2.out, by omega, by omega, HG.out.1, HG.out.2.1, HG.out.2.2⟩
  case round =>
   obtain ⟨Kc, Fc, hA, hgk, htc, H, hsc, hgc⟩ := hrel
   obtain ⟨k0, k1, _, _, _, k5, _, _⟩ := H.cells
   have hnd := H.nd
   have hszo := oldest_sz hnd 2
   obtain ⟨n2, hn2⟩ : ∃ n, (Kc 2).length = n := ⟨_, rfl⟩
   have hb2 : n2 ≤ 60000 := by rw [← hn2]; exact Nat.le_trans (len_tot (by omega)) htc
   have HN2 := Lib.hid hn2
   have HC := Lib.hid (And.intro H (And.intro hsc (And.intro hgc hnd)))
   clear H hsc hgc hnd hn2
   by_cases hlt : u.pr < n2
   ·have q1 : (u.pr : Int) < (n2 : Int) := by omega
    obtain ⟨o2, ho2⟩ : ∃ o, oldest Kc 2 = o := ⟨_, rfl⟩
    rw [ho2] at hszo
    have HO := Lib.hid ho2
    clear ho2
    go_wp2_with fail
    first
     | (go_region_held3 (fun w' => w'.cell? ⟨u.e, 0, none⟩ = some (.slice (some ⟨u.g, 0, none⟩) 3 u.cap) ∧ w'.cell? ⟨u.e, 1, none⟩ = some (.pointer (some ⟨u.x, 0, none⟩)) ∧ w'.cell? ⟨u.e, 5, none⟩ = some (.int .i64 (u.pr : Nat)))
       (first
        | exact ⟨k0, k1, k5⟩
        | exact ⟨cell_fr (by first | assumption | exact (Fr.refl [] _).drew | exact Fr.alloc (by assumption) _ | exact ((Fr.refl [] _).drew).alloc _) k0 (by simp), cell_fr (by first | assumption | exact (Fr.refl [] _).drew | exact Fr.alloc (by assumption) _ | exact ((Fr.refl [] _).drew).alloc _) k1 (by simp), cell_fr (by first | assumption | exact (Fr.refl [] _).drew | exact Fr.alloc (by assumption) _ | exact ((Fr.refl [] _).drew).alloc _) k5 (by simp)⟩
        | exact ⟨cell_fr (((Fr.refl [] _).drew).same (by assumption)) k0 (by simp), cell_fr (((Fr.refl [] _).drew).same (by assumption)) k1 (by simp), cell_fr (((Fr.refl [] _).drew).same (by assumption)) k5 (by simp)⟩)
       (first
        | (go_at_call 404; refine ((HC.out.1.fr0 ((Fr.refl [] _).drew)).many1 2 (by decide) HN2.out).mono ?_; rintro en w4 ⟨rfl, f4⟩)))
     | fail
    have HC4 := Lib.hid ((HC.out.1.fr0 ((Fr.refl [] _).drew)).fr0 f4)
    have f04 : Fr [] wr w4 := ((Fr.refl [] _).drew).same f4
    have HF4 := Lib.hid f04
    obtain ⟨k0, k1, _, _, _, _, _, _⟩ := HC4.out.cells
    clear k5 f4 f04
    have HOLD := Lib.hid fun (W : World) (f : Fr [] w4 W) => calls_base ((HC4.out.fr0 f).oldest (r := 2) (by decide) HO.out) f
    have HPU := Lib.hid fun (W : World) (f : Fr [] w4 W) => (HC4.out.fr0 f).push (by omega) (r := 1) (by decide) o2 hszo
    go_wp2_with fail
    first
     | (go_region_held3 (fun w' => w'.cell? ⟨u.e, 0, none⟩ = some (.slice (some ⟨u.g, 0, none⟩) 3 u.cap) ∧ w'.cell? ⟨u.e, 1, none⟩ = some (.pointer (some ⟨u.x, 0, none⟩)))
       (first
        | (have _h := h6; exact ⟨h6.cells.1, h6.cells.2.1⟩)
        | exact ⟨k0, k1⟩
        | exact ⟨cell_fr (by first | assumption | exact (Fr.refl [] _).drew | exact Fr.alloc (by assumption) _ | exact ((Fr.refl [] _).drew).alloc _) k0 (by simp), cell_fr (by first | assumption | exact (Fr.refl [] _).drew | exact Fr.alloc (by assumption) _ | exact ((Fr.refl [] _).drew).alloc _) k1 (by simp)⟩)
       (first
        | (go_at_call 405; refine (HOLD.out _ (by first | assumption | exact (Fr.refl [] _).drew | exact Fr.alloc (by assumption) _ | exact ((Fr.refl [] _).drew).alloc _)).mono ?_; rintro en w5 ⟨rfl, f5⟩)
        | (go_at_call 403; refine (HPU.out _ (by first | assumption | exact (Fr.refl [] _).drew | exact Fr.alloc (by assumption) _ | exact ((Fr.refl [] _).drew).alloc _)).mono ?_; rintro en w6 ⟨rfl, F6, h6, s6, g6⟩)))
     | fail
    obtain ⟨e1, e2⟩ := hA.out
    have hst := dem_step HC.out.2.2.2 (pr := u.pr) (by rw [HN2.out]; exact hlt) (by omega)
    rw [HO.out] at hst
    have hfin : Sub F6 F w ∧ Fr F w w6 := ⟨HC.out.2.1.fr HC.out.2.2.1 (s6.old (HF4.out.same (by first | assumption | exact (Fr.refl [] _).drew | exact Fr.alloc (by assumption) _ | exact ((Fr.refl [] _).drew).alloc _)).size), HC.out.2.2.1.via HC.out.2.1 ((HF4.out.same (by first | assumption | exact (Fr.refl [] _).drew | exact Fr.alloc (by assumption) _ | exact ((Fr.refl [] _).drew).alloc _)).nil.same g6)⟩
    have htp2 := tot_push (K := Kc) (k := 3) (r := 1) (by decide) o2
    have htm := tot_move HC.out.2.2.2 (r := 1) (j := 2) (key := o2) (HO.out ▸ oldest_mem (K := Kc) (r := 2) (by rw [HN2.out]; omega)) (by decide) (by decide)
    have hgk0 : 0 < gk := by have := HN2.out; omega
    have HFN := Lib.hid (And.intro h6 (And.intro hfin.1 (And.intro hfin.2 (And.intro (hst.2.trans e1) hst.1))))
    clear h6 s6 g6 hfin hst e1 e2 k0 k1
    go_wp2_with fail
    go_roundg 0
    case measure => omega
    case rel => exact ⟨_, F6, ⟨HFN.out.2.2.2.1, HFN.out.2.2.2.2⟩, by omega, by omega, HFN.out.1, HFN.out.2.1, HFN.out.2.2.1⟩
   ·have q1 : (n2 : Int) ≤ (u.pr : Int) := by omega
    go_wp2_with fail
    first
     | (go_region_held3 (fun w' => w'.cell? ⟨u.e, 0, none⟩ = some (.slice (some ⟨u.g, 0, none⟩) 3 u.cap) ∧ w'.cell? ⟨u.e, 1, none⟩ = some (.pointer (some ⟨u.x, 0, none⟩)) ∧ w'.cell? ⟨u.e, 5, none⟩ = some (.int .i64 (u.pr : Nat)))
       (first
        | exact ⟨k0, k1, k5⟩
        | exact ⟨cell_fr (by first | assumption | exact (Fr.refl [] _).drew | exact Fr.alloc (by assumption) _ | exact ((Fr.refl [] _).drew).alloc _) k0 (by simp), cell_fr (by first | assumption | exact (Fr.refl [] _).drew | exact Fr.alloc (by assumption) _ | exact ((Fr.refl [] _).drew).alloc _) k1 (by simp), cell_fr (by first | assumption | exact (Fr.refl [] _).drew | exact Fr.alloc (by assumption) _ | exact ((Fr.refl [] _).drew).alloc _) k5 (by simp)⟩
        | exact ⟨cell_fr (((Fr.refl [] _).drew).same (by assumption)) k0 (by simp), cell_fr (((Fr.refl [] _).drew).same (by assumption)) k1 (by simp), cell_fr (((Fr.refl [] _).drew).same (by assumption)) k5 (by simp)⟩)
       (first
        | (go_at_call 404; refine ((HC.out.1.fr0 ((Fr.refl [] _).drew)).many1 2 (by decide) HN2.out).mono ?_; rintro en w4 ⟨rfl, f4⟩)))
     | fail
    have hf4 : Fr [] wr w4 := ((Fr.refl [] _).drew).same f4
    have HFN := Lib.hid (And.intro (HC.out.1.fr0 hf4) (And.intro HC.out.2.1 (HC.out.2.2.1.same hf4.nil)))
    have hdm := demK_le (K := Kc) (pr := u.pr) (by rw [HN2.out]; omega)
    have HDM := Lib.hid (hA.out.1.symm.trans hdm)
    clear hdm hf4 f4 k0 k1 k5
    go_wp2
    go_ret2
    rw [HDM.out]
    exact ⟨_, Fc, rfl, Gone.nil _ _, HFN.out.1, HFN.out.2.1, HFN.out.2.2, by intro b hb; simp [Value.ownBlock] at hb⟩
end
end Go.Proofs.YtphlancijlljcaaGreat
