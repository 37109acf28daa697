/- The walks over s3fifo's engine: Access, New. -/
import Derived.Test.YtphlancijlljcaaGreatS3d
set_option linter.unusedVariables false
set_option linter.unusedSimpArgs false
namespace Go.Proofs.YtphlancijlljcaaGreat
open Go.RowKit
attribute [local go_sem ↓] Go.wp_at_zero Go.wp_at_succ
theorem upM_ci {K : Rows} {C : Cnt} (h : CInv K C) {key : ByteArray} (hr : key ∈ K 0 ∨ key ∈ K 1) {n : Nat} (hn : n ≤ 3) : CInv K (upM C key (some n)) := by
 refine ⟨h.nd, fun k => ?_, fun k m hm => ?_⟩
 ·unfold upM
  by_cases e : k = key
  ·subst e; simp [hr]
  ·simp [e]; exact h.is k
 ·unfold upM at hm
  split at hm
  ·cases hm; exact hn
  ·exact h.le k m hm
theorem S3.Inv.access {s : S3} (h : s.Inv) {key : ByteArray} (hz : key.size ≤ maxLen) : (s.access key).2.2.Inv := by
 unfold S3.access
 split
 ·rename_i hh
  have hr : key ∈ s.K 0 ∨ key ∈ s.K 1 := of_decide_eq_true hh
  exact ⟨upM_ci h.ci hr (Nat.min_le_left _ _), h.c1, h.c2, h.res, h.gh⟩
 ·rename_i hh
  have hno : ¬ (key ∈ s.K 0 ∨ key ∈ s.K 1) := fun h2 => hh (decide_eq_true h2)
  obtain ⟨a1, a2, a3, a4⟩ := h.room
  simp only
  generalize s.room = r at *
  obtain ⟨g, r⟩ := r
  simp only at *
  have hg := a1.gh
  have hrs := a1.res
  simp only [S3.len] at a3
  have p0 : ∀ q, (pushK r.K q key 0).length ≤ (r.K 0).length + (if (0 : Nat) = q then 1 else 0) := fun q => by
   have := push_len r.K q 0 key
   have := drop_len_le r.K key 0
   omega
  have p1 : ∀ q, (pushK r.K q key 1).length ≤ (r.K 1).length + (if (1 : Nat) = q then 1 else 0) := fun q => by
   have := push_len r.K q 1 key
   have := drop_len_le r.K key 1
   omega
  have p2 : ∀ q, q < 2 → (pushK r.K q key 2).length ≤ (r.K 2).length := fun q hq => by
   have := push_len r.K q 2 key
   have := drop_len_le r.K key 2
   rw [if_neg (by omega)] at *
   omega
  split
  ·have := p0 1
   have := p1 1
   have := p2 1 (by omega)
   simp at *
   exact ⟨a1.ci.toMain hz (by omega), h.c1, h.c2, by simp only; omega, by simp only [S3.ghosts, S3.small, a2] at *; omega⟩
  ·have := p0 0
   have := p1 0
   have := p2 0 (by omega)
   simp at *
   exact ⟨a1.ci.toSmall hz (by omega), h.c1, h.c2, by simp only; omega, by simp only [S3.ghosts, S3.small, a2] at *; omega⟩
section
variable {w : World} {e g cap x y : Nat} {F : List Nat} {s : S3}
theorem sput {c sm gh : Nat} {K : Rows} {C : Cnt} (H : SR w e g cap x y c sm gh F K C) (ht : tot 3 K ≤ 70000) (key : ByteArray) (hz : key.size ≤ maxLen) (hr : key ∈ K 0 ∨ key ∈ K 1) {n : Nat} (hn : n ≤ 3) :
  Calls Tryz.prog 133 #[.pointer (some ⟨y, 0, none⟩), .string key, .int .i64 n] w fun en w' => (∃ b, en = .returned (.bool b)) ∧ SGo w e g cap x y c sm gh F K (upM C key (some n)) w' := by
 obtain ⟨F1, Fy, m, rfl, h, hi, hd, hm, hc⟩ := H
 have hmb : m ≤ 70000 := by rw [tot3] at ht; omega
 refine (iputI hi (by omega) key hz n).mono ?_
 rintro en w2 ⟨b, Fy2, rfl, hi2, hsy, hfy⟩
 have e : nPut C key m = m := by unfold nPut; rw [if_pos ((hc.is key).2 hr)]
 rw [e] at hi2
 exact ⟨⟨b, rfl⟩, F1 ++ Fy2, ⟨F1, Fy2, m, rfl, h.fr irokS hfy hd, hi2, (hd.symm.sub hsy (h.lt irokS)).symm, hm, upM_ci hc hr hn⟩, sub_append hsy, hfy.mono (fun q hq _ => by simp [hq])⟩
def S3Ret (w : World) (e g cap x y c sm gh : Nat) (F : List Nat) (b : Bool) (l : List ByteArray) (K : Rows) (C : Cnt) (en : Ending) (w' : World) : Prop :=
 ∃ v F', en = .returned (.tuple #[.bool b, v]) ∧ Gone w w' v l ∧ SR w' e g cap x y c sm gh F' K C ∧ Sub F' F w ∧ Fr F w w' ∧ Dis v.ownBlock.toList F'
set_option maxRecDepth 100000 in
theorem saccess_hit (H : SR w e g cap x y s.c s.small s.ghosts F s.K s.C) (hi : s.Inv) (key : ByteArray) (hz : key.size ≤ maxLen) (hr : key ∈ s.K 0 ∨ key ∈ s.K 1) :
  Calls Tryz.prog 429 #[.pointer (some ⟨e, 0, none⟩), .string key] w (S3Ret w e g cap x y s.c s.small s.ghosts F true [] s.K (upM s.C key (some (min 3 (cntOf s.C key + 1))))) := by
 have hc := hi.c2
 have ht : tot 3 s.K ≤ 60000 := by
  have hr := hi.res
  have hg := hi.gh
  have hgh : s.ghosts ≤ 1024 := by unfold S3.ghosts; omega
  rw [tot3]; omega
 have hh := shas H key hz
 rw [decide_eq_true hr] at hh
 have HH := Lib.hid hh
 have HR := Lib.hid hr
 obtain ⟨n, hn⟩ : ∃ n, cntOf s.C key = n := ⟨_, rfl⟩
 have hn3 : n ≤ 3 := by rw [← hn]; exact cnt_le3 hi.ci _
 obtain ⟨m, hm⟩ : ∃ m, min 3 (n + 1) = m := ⟨_, rfl⟩
 rw [hn, hm]
 have hinc : incI (n : Int) 3 = (m : Int) := by unfold incI; split <;> omega
 have HN := Lib.hid hn
 have HI := Lib.hid hinc
 have hm3 : m ≤ 3 := by omega
 clear hh hr hn hm hinc
 go_enter Tryz.func429, Tryz.ntmps429
 go_wp2_with fail
 refine HH.out.mono ?_
 rintro en w1 ⟨rfl, hf1⟩
 replace H := H.fr0 hf1
 have k5 := H.k5
 go_wp2_with fail
 refine (sget H key hz).mono ?_
 rintro en w2 ⟨b, rfl, hf2⟩
 rw [HN.out]
 replace H := H.fr0 hf2
 replace k5 := H.k5
 have hF := hf1.same hf2
 clear hf1 hf2
 go_wp2_with fail
 first
  | (go_region_held3 (fun w' => w'.cell? ⟨e, 5, none⟩ = some (.pointer (some ⟨y, 0, none⟩)))
    (first
     | (have _h := hg3; exact H3.k5)
     | exact k5)
    (first
     | (go_at_call 132; refine (fixInc (n : Int) 3 (by omega) (by omega) _).mono ?_; rintro en w3 ⟨rfl, rfl⟩; rw [HI.out])
     | (go_at_call 133; refine (sput (H.fr0 ((Fr.refl [] _).drew)) (by omega) key hz HR.out hm3).mono ?_; rintro en w4 ⟨⟨b4, rfl⟩, F3, H3, hs3, hg3⟩)))
  | fail
 have HG := Lib.hid (And.intro H3 (And.intro (hs3.old (hF.same ((Fr.refl [] _).drew)).size) ((hF.same ((Fr.refl [] _).drew)).nil.same hg3)))
 clear H H3 hs3 hg3 k5 hF
 go_wp2
 go_ret2
 exact ⟨_, F3, rfl, Gone.nil _ _, HG.out.1, HG.out.2.1, HG.out.2.2, by intro b hb; simp [Value.ownBlock] at hb⟩
end
end Go.Proofs.YtphlancijlljcaaGreat

set_option linter.unusedVariables false
set_option linter.unusedSimpArgs false
namespace Go.Proofs.YtphlancijlljcaaGreat
open Go.RowKit
attribute [local go_sem ↓] Go.wp_at_zero Go.wp_at_succ
section
variable {w : World} {e g cap x y : Nat} {F : List Nat} {s : S3}
theorem S3.Inv.tot {s : S3} (hi : s.Inv) : tot 3 s.K ≤ 60000 := by
 have hr := hi.res
 have hg := hi.gh
 have hc := hi.c2
 have hgh : s.ghosts ≤ 1024 := by unfold S3.ghosts; omega
 rw [tot3]; omega
def MissRel (w : World) (e g cap x y : Nat) (F : List Nat) (s : S3) (gg : Nat) (u8 : Value) (wr : World) : Prop :=
 ∃ (s' : S3) (l : List ByteArray) (Fc : List Nat) (va : Option Addr) (vc : Nat), u8 = .slice va l.length vc ∧ Aside ((s' = s ∧ l = [] ∧ gg = 1) ∨ (¬ s.len < s.c ∧ s' = s.evict.2.2 ∧ l = [s.evict.1] ∧ gg = 0)) ∧
  Hid (s'.Inv ∧ s'.c = s.c) ∧ l.length ≤ 1 ∧ Gone w wr u8 l ∧ SR wr e g cap x y s.c s.small s.ghosts Fc s'.K s'.C ∧ Sub Fc F w ∧ Fr F w wr ∧ Dis u8.ownBlock.toList Fc
set_option maxHeartbeats 4000000 in
set_option maxRecDepth 100000 in
theorem saccess_miss (H : SR w e g cap x y s.c s.small s.ghosts F s.K s.C) (hi : s.Inv) (key : ByteArray) (hz : key.size ≤ maxLen) (hr : ¬ (key ∈ s.K 0 ∨ key ∈ s.K 1)) :
  Calls Tryz.prog 429 #[.pointer (some ⟨e, 0, none⟩), .string key] w (S3Ret w e g cap x y s.c s.small s.ghosts F false s.room.1 (pushK s.room.2.K (if key ∈ s.room.2.K 2 then 1 else 0) key) (upM s.room.2.C key (some 0))) := by
 obtain ⟨i0, hii, hz0, hz1, hz2⟩ := info_parts2 infoStr
 have hh := shas H key hz
 rw [decide_eq_false hr] at hh
 have HH := Lib.hid hh
 obtain ⟨res, hres⟩ : ∃ r, s.room = r := ⟨_, rfl⟩
 rw [hres]
 have HR := Lib.hid hres
 obtain ⟨ro, hro⟩ : ∃ r, (if key ∈ res.2.K 2 then 1 else 0) = r := ⟨_, rfl⟩
 rw [hro]
 have HO := Lib.hid hro
 have H0 := Lib.hid H
 obtain ⟨c, hc⟩ : ∃ c, s.c = c := ⟨_, rfl⟩
 have hc2 : c ≤ 1024 := by rw [← hc]; exact hi.c2
 have HC := Lib.hid hc
 clear hh hr hres hro H
 go_enter Tryz.func429, Tryz.ntmps429
 go_wp2_with fail
 refine HH.out.mono ?_
 rintro en w1 ⟨rfl, hf1⟩
 go_wp2_with fail
 go_loopg [8] 1 (MissRel w e g cap x y F s)
 case atStart => exact ⟨s, [], F, none, 0, rfl, .inl ⟨rfl, rfl, rfl⟩, ⟨hi, rfl⟩, by simp, Gone.nil _ _, H0.out.fr0 hf1, Sub.refl _ _, hf1.nil, by intro b hb; simp [Value.ownBlock] at hb⟩
 case round =>
  obtain ⟨s', l, Fc, va, vc, rfl, hA, hinv, hl1, hgo, H, hsc, hgc, hdc⟩ := (show MissRel w e g cap x y F s _ _ _ from hrel)
  have k2 := H.k2
  rw [HC.out] at k2
  obtain ⟨n, hn⟩ : ∃ n, (s'.K 0).length + (s'.K 1).length = n := ⟨_, rfl⟩
  have hnb : n ≤ 1024 := by rw [← hn]; exact Nat.le_trans hinv.out.1.res hinv.out.1.c2
  have HL := Lib.hid fun (W : World) (f : Fr [] wr W) => slen (H.fr0 f) hn
  have HN := Lib.hid hn
  have HX := Lib.hid (And.intro hgo (And.intro H (And.intro hsc (And.intro hgc hdc))))
  clear hgo hsc hgc hdc hn H
  by_cases hlt : n < c
  ·have q1 : (n : Int) < (c : Int) := by omega
   go_wp2_with fail
   first
    | (go_region_held3 (fun w' => w'.cell? ⟨e, 2, none⟩ = some (.int .i64 c))
      (first
       | (have _h := hf6; exact cell_fr (((Fr.refl [] _).drew).same hf6) k2 (by simp))
       | exact k2)
      (first
       | (go_at_call 434; refine (HL.out _ ((Fr.refl [] _).drew)).mono ?_; rintro en w6 ⟨rfl, hf6⟩)))
    | fail
   have hF := ((Fr.refl [] _).drew).same hf6
   obtain ⟨hgo, H, hsc, hgc, hdc⟩ := HX.out
   have hres : Hid (res = (l, s')) := by
    show _ = _
    have h1 := HR.out
    have hl : s'.len = n := HN.out
    rcases hA.out with ⟨rfl, rfl, _⟩ | ⟨a1, rfl, rfl, _⟩
    ·unfold S3.room at h1
     rw [if_pos (by rw [hl, HC.out]; exact hlt)] at h1
     exact h1.symm
    ·unfold S3.room at h1
     rw [if_neg a1] at h1
     exact h1.symm
   replace H := H.fr0 hF
   obtain ⟨F1, he⟩ := H.er
   have k0 := he.k0
   have k1 := he.k1
   have HW := Lib.hid (ewhereS he key hz)
   have HY := Lib.hid (And.intro H (And.intro hF (And.intro hgo (And.intro hsc (And.intro hgc hdc)))))
   clear H hF hf6 hgo hsc hgc hdc he k2 HL HX
   go_wp2_with fail
   refine HW.out.mono ?_
   rintro en w7 ⟨r, rfl, har, hf7⟩
   obtain ⟨H, hF, hgo, hsc, hgc, hdc⟩ := HY.out
   replace H := H.fr0 hf7
   have hF7 := hF.same hf7
   have htt := hinv.out.1.tot
   have hnd := hinv.out.1.ci.nd
   have HZ := Lib.hid (And.intro hF7 (And.intro hgo (And.intro hsc (And.intro hgc (And.intro hdc hnd)))))
   clear HY hF hf7 hF7 hgo hsc hgc hdc k0 k1 HW hnd
   have hrow : (r = 2 ∧ key ∈ s'.K 2) ∨ (((r == 2) = false) ∧ r ≠ 2 ∧ key ∉ s'.K 2) := by
    rcases har with ⟨i, hi4, rfl, hik⟩ | ⟨rfl, hno⟩
    ·by_cases h : i = 2
     ·subst h; exact .inl ⟨rfl, hik⟩
     ·refine .inr ⟨by rw [beq_eq_false_iff_ne]; omega, by omega, fun h2 => HZ.out.2.2.2.2.2.dis i 2 h _ hik h2⟩
    ·exact .inr ⟨by decide, by omega, hno 2⟩
   clear har
   rcases hrow with ⟨rfl, hk2⟩ | ⟨hrb, hr2, hk2⟩
   ·have HK := Lib.hid hk2
    clear hk2
    go_wp2_with fail
    refine (scomes H (by omega) (r := 1) (by decide) key hz (n := 0) (by omega)).mono ?_
    rintro en w8 ⟨rfl, F8, H8, hs8, hg8⟩
    obtain ⟨hF7, hgo, hsc, hgc, hdc, hnd⟩ := HZ.out
    have hs9 := hs8.old hF7.size
    have hg9 := hF7.nil.same hg8
    have hd9 : Dis (Value.slice va l.length vc).ownBlock.toList F8 := fun q hq hx => by
     rcases hs9 q hx with h | h
     ·exact hdc q hq h
     ·have := hgo.1.lt q hq; omega
    have hgo9 : Gone w w8 (.slice va l.length vc) l := ⟨hgo.1.fr hg9 hdc, hgo.2⟩
    have HE := Lib.hid (And.intro H8 (And.intro (hsc.fr hgc hs9) (And.intro (hgc.via hsc hg9) (And.intro hgo9 hd9))))
    clear H H8 hs8 hg8 HZ hF7 hgo hsc hgc hdc hs9 hg9 hd9 hgo9
    go_wp2
    go_ret2
    have e1 := HO.out
    rw [hres.out] at e1 ⊢
    simp only [HK.out, if_true, if_false] at e1
    subst e1
    exact ⟨_, F8, rfl, HE.out.2.2.2.1, HE.out.1, HE.out.2.1, HE.out.2.2.1, HE.out.2.2.2.2⟩
   ·have HK := Lib.hid hk2
    clear hk2
    go_wp2_with fail
    refine (scomes H (by omega) (r := 0) (by decide) key hz (n := 0) (by omega)).mono ?_
    rintro en w8 ⟨rfl, F8, H8, hs8, hg8⟩
    obtain ⟨hF7, hgo, hsc, hgc, hdc, hnd⟩ := HZ.out
    have hs9 := hs8.old hF7.size
    have hg9 := hF7.nil.same hg8
    have hd9 : Dis (Value.slice va l.length vc).ownBlock.toList F8 := fun q hq hx => by
     rcases hs9 q hx with h | h
     ·exact hdc q hq h
     ·have := hgo.1.lt q hq; omega
    have hgo9 : Gone w w8 (.slice va l.length vc) l := ⟨hgo.1.fr hg9 hdc, hgo.2⟩
    have HE := Lib.hid (And.intro H8 (And.intro (hsc.fr hgc hs9) (And.intro (hgc.via hsc hg9) (And.intro hgo9 hd9))))
    clear H H8 hs8 hg8 HZ hF7 hgo hsc hgc hdc hs9 hg9 hd9 hgo9
    go_wp2
    go_ret2
    have e1 := HO.out
    rw [hres.out] at e1 ⊢
    simp only [HK.out, if_true, if_false] at e1
    subst e1
    exact ⟨_, F8, rfl, HE.out.2.2.2.1, HE.out.1, HE.out.2.1, HE.out.2.2.1, HE.out.2.2.2.2⟩
  ·have q1 : (c : Int) ≤ (n : Int) := by omega
   go_wp2_with fail
   first
    | (go_region_held3 (fun w' => w'.cell? ⟨e, 2, none⟩ = some (.int .i64 c))
      (first
       | (have _h := hf6; exact cell_fr (((Fr.refl [] _).drew).same hf6) k2 (by simp))
       | exact k2)
      (first
       | (go_at_call 434; refine (HL.out _ ((Fr.refl [] _).drew)).mono ?_; rintro en w6 ⟨rfl, hf6⟩)))
    | fail
   have hF := ((Fr.refl [] _).drew).same hf6
   have hfirst : s' = s ∧ l = [] ∧ gk = 1 := by
    rcases hA.out with ⟨a1, a2, a3⟩ | ⟨a1, a2, a3, _⟩
    ·exact ⟨a1, a2, a3⟩
    ·exfalso
     have h2 := hi.room.2.2.1
     unfold S3.room at h2
     rw [if_neg a1] at h2
     simp only at h2
     rw [← a2] at h2
     have hl : s'.len = n := HN.out
     rw [hl, HC.out] at h2
     omega
   obtain ⟨rfl, rfl, hgk⟩ := hfirst
   obtain ⟨hgo, H, hsc, hgc, hdc⟩ := HX.out
   replace H := H.fr0 hF
   have HY := Lib.hid (And.intro hF (And.intro hgo (And.intro hsc (And.intro hgc hdc))))
   clear hF hf6 hgo hsc hgc hdc k2 HL HX
   go_wp2_with fail
   refine (sevict H hi).mono ?_
   rintro en w7 ⟨rfl, F7, H7, hs7, hg7⟩
   obtain ⟨hF, hgo, hsc, hgc, hdc⟩ := HY.out
   have hsz := hF.size
   have hgo1 : Gone w w7 (.slice va 0 vc) [] := by
    refine ⟨hgo.1.fr (hF.nil.same hg7) hdc, hgo.2⟩
   have HZ := Lib.hid (And.intro H7 (And.intro (hs7.old hsz) (And.intro (hF.nil.same hg7) hgo1)))
   clear H H7 hs7 hg7 hF hgo hsc hgc hdc hgo1 hsz
   obtain ⟨k1, hk1⟩ : ∃ k, s'.evict.1 = k := ⟨_, rfl⟩
   have HK1 := Lib.hid hk1
   rw [hk1]
   clear hk1
   go_wp2_with (at_builtin; refine wpList_app rfl _ _ _ _ rfl Tryz.underlying22 hii hz0 hz1 hz2 rfl (.slice va 0 vc) _ 0 1 [] [.string k1] rfl rfl ?hsl ?hone ?src ?c3 ?c4 _ rfl ?_)
   case hsl => exact HZ.out.2.2.2.1.fr ((Fr.refl [] _).alloc _) (fun b _ => by simp)
   case hone => intro u hu; simp at hu
   case src => exact Src.built Tryz.underlying22 _ [.string k1] _ _ (by simp) rfl (by simp [Value.oneCell'])
   case c3 => unfold maxLen; omega
   case c4 => omega
   intro b' cp w8 hs8 hf8 hat
   obtain ⟨H7, hs7, hg7, hgo1⟩ := HZ.out
   obtain ⟨hF, hgo, hsc, hgc, hdc⟩ := HY.out
   have hd7 : Dis (Value.slice va 0 vc).ownBlock.toList F7 := fun q hq hx => by
    rcases hs7 q hx with h | h
    ·exact hdc q hq h
    ·have := hgo.1.lt q hq; omega
   have hl7 := H7.lt
   have H8 := (H7.fr0 ((Fr.refl [] _).alloc (.cells #[.string k1] 9))).fr hf8 (fun q hq hx => hd7 q hx hq)
   have hg8 : Fr F w w8 := ((hgc.via hsc hg7).alloc _).fresh hf8 hgo1.2
   have hz7 := (hgc.via hsc hg7).size
   have hG8 : Gone w w8 (.slice b' 1 cp) [k1] := by
    refine ⟨hs8, ?_⟩
    intro q hq
    rcases hat with h | h
    ·rw [h] at hq; exact hgo1.2 q hq
    ·rw [h] at hq; simp at hq; omega
   have hd8 : Dis (Value.slice b' 1 cp).ownBlock.toList F7 := by
    intro q hq hx
    rcases hat with h | h
    ·rw [h] at hq; exact hd7 q hq hx
    ·rw [h] at hq; simp at hq; have := hl7 q hx; omega
   have HE := Lib.hid (And.intro hG8 (And.intro H8 (And.intro (hsc.fr hgc hs7) (And.intro hg8 hd8))))
   have hev := hi.evict
   have HV := Lib.hid hev
   clear hG8 H8 hg8 hd8 hs7 hg7 hgo1 hF hgo hsc hgc hdc hd7 hl7 H7 hz7 hs8 hf8 hat hev
   go_wp2_with fail
   go_roundg 0
   case measure => omega
   case rel =>
    refine ⟨s'.evict.2.2, [s'.evict.1], F7, b', cp, rfl, .inr ⟨?_, rfl, rfl, rfl⟩, ⟨HV.out.1, HV.out.2.1⟩, by simp, ?_, HE.out.2.1, HE.out.2.2.1, HE.out.2.2.2.1, HE.out.2.2.2.2⟩
    ·intro hx
     have hl : s'.len = n := HN.out
     rw [hl, HC.out] at hx
     exact hlt hx
    ·rw [HK1.out]; exact HE.out.1
end
end Go.Proofs.YtphlancijlljcaaGreat

set_option linter.unusedVariables false
set_option linter.unusedSimpArgs false
namespace Go.Proofs.YtphlancijlljcaaGreat
open Go.RowKit
attribute [local go_sem ↓] Go.wp_at_zero Go.wp_at_succ
def ES (w : World) (e : Nat) (F : List Nat) (s : S3) : Prop := s.Inv ∧ ∃ g cap x y, SR w e g cap x y s.c s.small s.ghosts F s.K s.C
theorem ES.fr {w w' : World} {e : Nat} {F G : List Nat} {s : S3} (h : ES w e F s) (f : Fr G w w') (hd : Dis F G) : ES w' e F s := by
 obtain ⟨hi, g, cap, x, y, h⟩ := h
 exact ⟨hi, g, cap, x, y, h.fr f hd⟩
theorem ES.lt {w : World} {e : Nat} {F : List Nat} {s : S3} (h : ES w e F s) : Lt F w := by
 obtain ⟨hi, g, cap, x, y, h⟩ := h
 exact h.lt
theorem saccess {w : World} {e : Nat} {F : List Nat} {s : S3} (H : ES w e F s) (key : ByteArray) (hz : key.size ≤ maxLen) :
  Calls Tryz.prog 429 #[.pointer (some ⟨e, 0, none⟩), .string key] w (AccRet ES w e F (s.access key)) := by
 obtain ⟨hi, g, cap, x, y, h⟩ := H
 have hinv := hi.access hz
 by_cases hr : key ∈ s.K 0 ∨ key ∈ s.K 1
 ·have hh : s.has key = true := decide_eq_true hr
  unfold S3.access at hinv ⊢
  rw [if_pos hh] at hinv ⊢
  refine (saccess_hit h hi key hz hr).mono ?_
  rintro en w1 ⟨v, F', rfl, a, b, c, d, e⟩
  exact ⟨v, F', rfl, a, ⟨hinv, g, cap, x, y, b⟩, c, d, e⟩
 ·have hh : ¬ s.has key = true := by
   intro hx
   exact hr (of_decide_eq_true hx)
  unfold S3.access at hinv ⊢
  rw [if_neg hh] at hinv ⊢
  refine (saccess_miss h hi key hz hr).mono ?_
  rintro en w1 ⟨v, F', rfl, a, b, c, d, e⟩
  exact ⟨v, F', rfl, a, ⟨hinv, g, cap, x, y, b⟩, c, d, e⟩
def S3.new (room : Int) : S3 := ⟨fun _ => [], fun _ => none, roomN room⟩
theorem S3.Inv.new (room : Int) : (S3.new room).Inv := by
 obtain ⟨h1, h2⟩ := roomN_bd room
 exact ⟨⟨RNd.nil 3, by intro key; simp [S3.new], by intro key n h; simp [S3.new] at h⟩, h1, h2, by simp [S3.new], by simp [S3.new]⟩
theorem snew_ret {w w1 w2 : World} {room v v1 v2 : Int} {F1 F2 : List Nat} {g cap x y : Nat} (hr : RRep IRepS 3 w1 (.agg #[.slice (some ⟨g, 0, none⟩) 3 cap, .pointer (some ⟨x, 0, none⟩)]) F1 (fun _ => [])) (hge : Ge w.heap.size F1) (hf1 : Fr [] w w1)
  (hi : IRepI w2 y F2 (fun _ => none) 0) (hge2 : Ge w1.heap.size F2) (hf2 : Fr [] w1 w2) (hv : (roomN room : Int) = v)
  (hv1 : ((max 1 (roomN room / 10) : Nat) : Int) = v1) (hv2 : ((max 1 (roomN room - max 1 (roomN room / 10)) : Nat) : Int) = v2) :
  NewRet ES w (S3.new room) (.returned (.pointer (some ⟨w2.heap.size, 0, none⟩))) (w2.alloc (.cells #[.slice (some ⟨g, 0, none⟩) 3 cap, .pointer (some ⟨x, 0, none⟩), .int .i64 v, .int .i64 v1, .int .i64 v2, .pointer (some ⟨y, 0, none⟩)] 225)) := by
 subst hv hv1 hv2
 have hl1 := hr.lt irokS
 have hl2 := hi.lt
 have hs2 := hf2.size
 have hs1 := hf1.size
 have fa : Fr [] w2 (w2.alloc (.cells #[.slice (some ⟨g, 0, none⟩) 3 cap, .pointer (some ⟨x, 0, none⟩), .int .i64 (roomN room : Nat), .int .i64 ((max 1 (roomN room / 10) : Nat) : Int), .int .i64 ((max 1 (roomN room - max 1 (roomN room / 10)) : Nat) : Int), .pointer (some ⟨y, 0, none⟩)] 225)) := (Fr.refl [] _).alloc _
 refine ⟨w2.heap.size, (w2.heap.size :: F1) ++ F2, rfl, ⟨S3.Inv.new room, g, cap, x, y, w2.heap.size :: F1, F2, 0, rfl, ⟨F1, rfl, fun h => ?_, block_alloc_new _ _, hr.fr irokS (hf2.same fa) (fun b _ => by simp)⟩, hi.fr fa (fun b _ => by simp), ?_, by simp, (S3.Inv.new room).ci⟩, ?_, (hf1.same hf2).alloc _⟩
 ·have := hl1 _ h; omega
 ·intro b hb hb2
  have h2 := hge2 b hb2
  have h3 := hl2 b hb2
  rcases List.mem_cons.1 hb with rfl | hb
  ·omega
  ·have := hl1 b hb; omega
 ·intro b hb
  rcases List.mem_append.1 hb with hb | hb
  ·rcases List.mem_cons.1 hb with rfl | hb
   ·omega
   ·exact hge b hb
  ·have := hge2 b hb; omega
set_option maxRecDepth 100000 in
theorem snew (w : World) (room : Int) (h0 : -9223372036854775808 ≤ room) (h1 : room ≤ 9223372036854775807) : Calls Tryz.prog 106 #[.int .i64 room] w (NewRet ES w (S3.new room)) := by
 go_enter Tryz.func106, Tryz.ntmps106
 go_wp2_with fail
 all_goals
  refine (rnewS _).mono ?_
  rintro en w1 ⟨v, F1, rfl, hr, hge, hf1⟩
  obtain ⟨g, cap, x, rfl, hgl⟩ := hr.form
  have HX := Lib.hid (And.intro hr (And.intro hge hf1))
  clear hr hge hf1
 all_goals go_wp2_with fail
 all_goals
  refine (idxNewI _).mono ?_
  rintro en w2 ⟨y, F2, rfl, hi, hge2, hf2⟩
  have HY := Lib.hid (And.intro hi (And.intro hge2 hf2))
  clear hi hge2 hf2
 all_goals go_wp2
 all_goals
  go_ret
  obtain ⟨hr, hge, hf1⟩ := HX.out
  obtain ⟨hi, hge2, hf2⟩ := HY.out
  refine snew_ret hr hge hf1 hi hge2 hf2 ?_ ?_ ?_
 all_goals
  unfold roomN
  first | omega | (split <;> omega)
end Go.Proofs.YtphlancijlljcaaGreat
