/- hoardlaw18: PanelCounts. -/
import Derived.Test.YtphlancijlljcaaGreatLaw18
import Derived.Test.YtphlancijlljcaaGreatLaw17e
set_option linter.unusedVariables false
set_option linter.unusedSimpArgs false
namespace Go.Proofs.YtphlancijlljcaaGreat
open Go.RowKit
attribute [local go_sem ↓] Go.wp_at_zero Go.wp_at_succ
def CtN (n : Nat) (c : Cts) : Prop := c.all = n ∧ c.hits + c.ghosts ≤ n
/-- All shadows have seen n keys. -/
def AllN (n : Nat) (s : Nat → Shd) : Prop := ∀ k, (s k).kind = (k : Int) ∧ CtN n (s k).ep ∧ CtN n (s k).tot
theorem CtN.count {n : Nat} {c : Cts} (h : CtN n c) (hn : n ≤ 1000) {a b : Bool} (hab : (a && b) = false) : CtN (n + 1) (c.count a b) := by
 obtain ⟨h1, h2⟩ := h
 have i1 : ∀ x, x ≤ 1000 → incN x = x + 1 := fun x hx => by unfold incN; rw [if_neg (by omega)]
 refine ⟨by show incN c.all = _; rw [i1 _ (by omega), h1], ?_⟩
 show (bif a then incN c.hits else c.hits) + (bif b then incN c.ghosts else c.ghosts) ≤ n + 1
 rw [i1 c.hits (by omega), i1 c.ghosts (by omega)]
 cases a <;> cases b
 ·simp; omega
 ·simp; omega
 ·simp; omega
 ·cases hab
theorem AllN.acc {n : Nat} {s : Nat → Shd} (h : AllN n s) (hn : n ≤ 1000) (key : ByteArray) : AllN (n + 1) (accAll s key) := fun k => by
 obtain ⟨h1, h2, h3⟩ := h k
 exact ⟨h1, h2.count hn (nand _ _), h3.count hn (nand _ _)⟩
theorem AllN.new (room : Int) : AllN 0 (newAll room) := fun k => ⟨rfl, ⟨rfl, Nat.le_refl _⟩, ⟨rfl, Nat.le_refl _⟩⟩
theorem PN.noacc {w w1 : World} {p rate : Nat} {s : Nat → Shd} (h : PN w p rate s w1) (key : ByteArray) (hk : key.size ≤ maxLen) (ht : takesB key rate = false) :
  Calls Tryz.prog 23 #[ptr p, .string key] w1 fun en w2 => en = .returned (.bool false) ∧ PN w p rate s w2 := by
 obtain ⟨sp, all, taken, room, P, G, hp, hg, hf⟩ := h
 refine (paccess_no (rxok s) hp key hk ht).mono ?_
 rintro en w2 ⟨rfl, G', a, b, c⟩
 exact ⟨rfl, sp, _, _, room, P, G', a, b.ge hg hf.size, hf.fresh c hg⟩
/-- One use of a key, taken or not. -/
def PAcc (w : World) (p rate n : Nat) (en : Ending) (w2 : World) : Prop := ∃ (b : Bool) (s : Nat → Shd), en = .returned (.bool b) ∧ AllN (n + b.toNat) s ∧ PN w p rate s w2
theorem PN.any {w w1 : World} {p rate n : Nat} {s : Nat → Shd} (h : PN w p rate s w1) (ha : AllN n s) (hn : n ≤ 1000) (key : ByteArray) (hk : key.size ≤ maxLen) :
  Calls Tryz.prog 23 #[ptr p, .string key] w1 (PAcc w p rate n) := by
 cases ht : takesB key rate with
 | true =>
  refine (h.acc key hk ht).mono ?_
  rintro en w2 ⟨rfl, h2⟩
  exact ⟨true, _, rfl, ha.acc hn key, h2⟩
 | false =>
  refine (h.noacc key hk ht).mono ?_
  rintro en w2 ⟨rfl, h2⟩
  exact ⟨false, _, rfl, ha, h2⟩
/-- The shadow of a kind, its counts. -/
def PShadow (w : World) (p rate : Nat) (s : Nat → Shd) (k : Nat) (w1 : World) (en : Ending) (w2 : World) : Prop := ∃ q, en = .returned (ptr q) ∧ w1 = w2 ∧
 Hid (∀ w3, Fr [] w1 w3 → Calls Tryz.prog 19 #[ptr q] w3 fun en w4 => en = .returned ((s k).tot).val ∧ Fr [] w1 w4) ∧ Hid (∀ w3, Fr [] w1 w3 → Calls Tryz.prog 25 #[ptr q] w3 fun en w4 => en = .returned (.int .i64 (s k).kind) ∧ w3 = w4)
theorem PN.shadow {w w1 : World} {p rate : Nat} {s : Nat → Shd} (h : PN w p rate s w1) (k : Nat) (hk : k < 5) : Calls Tryz.prog 24 #[ptr p, .int .i64 k] w1 (PShadow w p rate s k w1) := by
 obtain ⟨sp, all, taken, room, P, G, hp, hg, hf⟩ := h
 refine (pshadow hp k hk).mono ?_
 rintro en w2 ⟨rfl, rfl⟩
 have hs : ShRep w1 (P k) (G k) (s k) := hp.sh k hk
 refine ⟨P k, rfl, rfl, fun w3 f => ?_, fun w3 f => shr_kind (hs.fr0 f)⟩
 exact (shr_total (hs.fr0 f)).mono fun _ _ h => ⟨h.1, f.same h.2⟩
theorem PN.fr0 {w w1 w2 : World} {p rate : Nat} {s : Nat → Shd} (h : PN w p rate s w1) (f : Fr [] w1 w2) : PN w p rate s w2 := by
 obtain ⟨sp, all, taken, room, P, G, hp, hg, hf⟩ := h
 exact ⟨sp, all, taken, room, P, G, hp.fr (rxok s) f (fun b _ => by simp), hg, hf.same f⟩
theorem PN.frW {w w1 : World} {p rate : Nat} {s : Nat → Shd} (h : PN w p rate s w1) : Fr [] w w1 := by
 obtain ⟨sp, all, taken, room, P, G, hp, hg, hf⟩ := h
 exact hf
set_option maxHeartbeats 4000000 in
set_option maxRecDepth 100000 in
theorem panelCounts (rate room : Int) (r0 : -9223372036854775808 ≤ rate) (r1 : rate ≤ 9223372036854775807) (c0 : -9223372036854775808 ≤ room) (c1 : room ≤ 9223372036854775807) (l : List ByteArray) (a : Option Addr) (n cp : Nat) (hn : l.length = n) (w : World)
  (h : Rd w 1 (.slice a n cp) l.length (l.flatMap strE)) (hl : Hid (l.length ≤ maxLen)) : Calls Tryz.prog 4 #[.int .i64 rate, .int .i64 room, .slice a n cp] w (BoolFr true w) := by
 have hv := heavy18 l _ w h hl
 by_cases hh : heavyS 120 l = true
 ·rw [hh] at hv
  have HV := Lib.hid hv
  clear hv hh h hn
  go_enter Tryz.func4, Tryz.ntmps4
  go_wp2_with fail
  refine HV.out.mono ?_
  rintro e w1 ⟨rfl, rfl⟩
  go_wp2
  go_ret
  exact ⟨rfl, Fr.refl _ _⟩
 rw [Bool.not_eq_true] at hh
 rw [hh] at hv
 have HV := Lib.hid hv
 have hlm := hl.out
 unfold maxLen at hlm
 have hnb : n ≤ 9223372036854775807 := by omega
 have HS : Hid (∀ k, k < n → k < 120 → ∃ (b o : Nat) (s : ByteArray), a = some ⟨b, o, none⟩ ∧ s.size ≤ maxLen ∧ w.cell? ⟨b, o + k, none⟩ = some (.string s)) := by
  intro k hk hk2
  obtain ⟨hlen, a', c, hv', hcc⟩ := h
  simp at hv'
  obtain ⟨rfl, hv2, rfl⟩ := hv'
  rcases hcc with hz | ⟨b, o, rfl, hcell⟩
  ·omega
  ·refine ⟨b, o, l[k], rfl, ?_, str_cell (c := cp) hcell k (by omega)⟩
   have := heavyS_no hh k (by omega) hk2
   unfold maxLen
   omega
 have HN := Lib.hid fun W => rx_pnew W rate room r0 r1 c0 c1
 clear hv h hl hh hn hlm r0 r1 c0 c1
 go_enter Tryz.func4, Tryz.ntmps4
 go_wp2_with fail
 refine HV.out.mono ?_
 rintro e w1 ⟨rfl, rfl⟩
 go_wp2_with fail
 refine (HN.out _).mono ?_
 rintro en w2 ⟨p, sp, P, G, rfl, hp, hg, hf⟩
 have H1 : Hid (PN w p (rateN rate) (newAll (roomS room (rateN rate) : Nat)) w2) := ⟨sp, _, _, _, P, G, hp, hg, hf⟩
 obtain ⟨rt, hrt⟩ : ∃ rt, rateN rate = rt := ⟨_, rfl⟩
 rw [hrt] at H1
 clear hp hg hf HN hrt
 go_wp2_with fail
 go_loopw [8, 9] (fun u8 u9 wr => ∃ (i m : Nat) (s : Nat → Shd), i ≤ n ∧ i ≤ 120 ∧ m ≤ i ∧ u9 = .int .i64 i ∧ u8 = .int .i64 m ∧ Hid (AllN m s) ∧ Hid (PN w p rt s wr)) (fun _ u9 _ => 120 - (intOf u9).toNat)
 case atStart => exact ⟨0, 0, _, by omega, by omega, by omega, rfl, rfl, AllN.new _, H1.out⟩
 case round =>
  obtain ⟨i, m, s, hi, hi2, hm, rfl, rfl, hA, hP⟩ := hrel
  clear H1
  by_cases hlt : i < n ∧ i < 120
  ·obtain ⟨hl1, hl2⟩ := hlt
   obtain ⟨b, o, s1, rfl, hsz, hcell⟩ := HS.out i hl1 hl2
   replace hcell := cell_fr hP.out.frW hcell (by simp)
   have HAC := Lib.hid (hP.out.any hA.out (by omega) s1 hsz)
   have q1 : (i : Int) < (n : Int) := by omega
   have q2 : (i : Int) < 120 := by omega
   go_wp2_with fail
   refine HAC.out.mono ?_
   rintro en w3 ⟨bb, s2, rfl, hA2, hP2⟩
   have HA2 := Lib.hid hA2
   have HP2 := Lib.hid hP2
   clear hA2 hP2 hcell HAC
   cases bb
   case false =>
    go_wp2_with fail
    exact ⟨⟨i + 1, m, s2, by omega, by omega, by omega, by go_num, rfl, HA2.out, HP2.out⟩, by simp [intOf]; omega⟩
   case true =>
    go_wp2_with fail
    exact ⟨⟨i + 1, m + 1, s2, by omega, by omega, by omega, by go_num, by go_num, HA2.out, HP2.out⟩, by simp [intOf]; omega⟩
  ·have hcnd : n ≤ i ∨ (i < n ∧ 120 ≤ i) := by omega
   obtain ⟨MM, hMM⟩ : ∃ M, M = m := ⟨_, rfl⟩
   rcases hcnd with hge | ⟨hl0, hge⟩
   all_goals
    go_wp2_with fail
    go_loopw [10] (fun u10 wr2 => ∃ k : Nat, k ≤ 5 ∧ u10 = .int .i64 k ∧ Hid (PN w p rt s wr2)) (fun u10 _ => 5 - (intOf u10).toNat)
    case atStart => exact ⟨0, by omega, rfl, hP.out⟩
    case round =>
     obtain ⟨k, hk, rfl, hP2⟩ := hrel
     by_cases hk5 : k < 5
     ·have q1 : (k : Int) < 5 := by omega
      have HSH := Lib.hid (hP2.out.shadow k hk5)
      obtain ⟨a1, ⟨a2, a3⟩, ⟨a4, a5⟩⟩ := hA.out k
      obtain ⟨ca, hca⟩ : ∃ x, (s k).tot.all = x := ⟨_, rfl⟩
      obtain ⟨ch, hch⟩ : ∃ x, (s k).tot.hits = x := ⟨_, rfl⟩
      obtain ⟨cg, hcg⟩ : ∃ x, (s k).tot.ghosts = x := ⟨_, rfl⟩
      have hcv : (s k).tot.val = .agg #[.int .i64 ca, .int .i64 ch, .int .i64 cg] := by unfold Cts.val; rw [hca, hch, hcg]
      rw [hca] at a4
      rw [hch, hcg] at a5
      subst a4
      have HV2 := Lib.hid (And.intro hcv a1)
      clear a1 a2 a3 hca hch hcg hcv
      go_wp2_with fail
      refine HSH.out.mono ?_
      rintro en w3 ⟨q, rfl, rfl, HT, HK⟩
      have HT2 := Lib.hid (HV2.out.1 ▸ HT.out)
      have HK2 := Lib.hid (HV2.out.2 ▸ HK.out)
      go_wp2_with fail
      refine (HT2.out _ (Fr.refl _ _)).mono ?_
      rintro en w4 ⟨rfl, f4⟩
      have F4 := Lib.hid f4
      clear f4
      go_wp2_with fail
      refine (HK2.out _ (F4.out.alloc _)).mono ?_
      rintro en w5 ⟨rfl, rfl⟩
      have FIN := Lib.hid (hP2.out.fr0 (F4.out.alloc (.cells #[.int .i64 ca, .int .i64 ch, .int .i64 cg] 29)))
      go_wp2_with fail
      exact ⟨⟨k + 1, by omega, by go_num, FIN.out⟩, by simp [intOf]; omega⟩
     ·have : k = 5 := by omega
      subst this
      have hE := hP2.out.epoch
      unfold ghVal at hE
      rw [(hA.out 4).2.1.1] at hE
      obtain ⟨g0, h0⟩ : ∃ x, (s 0).ep.ghosts = x := ⟨_, rfl⟩
      obtain ⟨g1, h1⟩ : ∃ x, (s 1).ep.ghosts = x := ⟨_, rfl⟩
      obtain ⟨g2, h2⟩ : ∃ x, (s 2).ep.ghosts = x := ⟨_, rfl⟩
      obtain ⟨g3, h3⟩ : ∃ x, (s 3).ep.ghosts = x := ⟨_, rfl⟩
      obtain ⟨g4, h4⟩ : ∃ x, (s 4).ep.ghosts = x := ⟨_, rfl⟩
      simp only [h0, h1, h2, h3, h4] at hE
      have HE := Lib.hid hE
      clear hE h0 h1 h2 h3 h4
      go_wp2_with fail
      refine HE.out.mono ?_
      rintro en w3 ⟨rfl, h3⟩
      have HE2 : Hid (∀ o : Obj, Calls Tryz.prog 26 #[ptr p] (w3.alloc o) fun en w4 => en = .returned (.tuple #[.agg #[.int .i64 0, .int .i64 0, .int .i64 0, .int .i64 0, .int .i64 0], .int .i64 0]) ∧ PN w p rt (epAll (epAll s)) w4) := fun o => (h3.fr0 ((Fr.refl [] _).alloc o)).epoch
      clear h3
      go_wp2_with fail
      refine (HE2.out _).mono ?_
      rintro en w4 ⟨rfl, h4⟩
      have HF := Lib.hid h4.frW
      clear h4
      go_wp2_with fail
      refine (known18 _).mono ?_
      rintro en w5 ⟨rfl, f5⟩
      have HF5 := Lib.hid ((HF.out.alloc _).same f5)
      clear f5
      go_wp2
      go_ret
      exact ⟨by simp, HF5.out⟩
end Go.Proofs.YtphlancijlljcaaGreat
