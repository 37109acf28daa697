/- The walks over s3fifo's engine: fromSmall. -/
import Derived.Test.YtphlancijlljcaaGreatGC
set_option linter.unusedVariables false
set_option linter.unusedSimpArgs false
namespace Go.Proofs.YtphlancijlljcaaGreat
open Go.RowKit
attribute [local go_sem ↓] Go.wp_at_zero Go.wp_at_succ
section
variable {w w' w1 w2 w0 : World} {e g cap x y c sm gh : Nat} {F F1 G : List Nat} {K : Rows} {C : Cnt}
theorem CInv.rows {K' : Rows} (h : CInv K C) (hn : RNd 3 K') (h0 : K' 0 = K 0) (h1 : K' 1 = K 1) : CInv K' C := ⟨hn, fun k => by rw [h0, h1]; exact h.is k, h.le⟩
/-- What the rows' functions do to the ghosts. -/
theorem SR.ghosts {K' : Rows} (hl : (K' 0) = (K 0)) (hl1 : K' 1 = K 1) {F1 Fy : List Nat} {n : Nat} (h : ERows IRepS 3 225 w e g cap x F1 K [.int .i64 (c : Nat), .int .i64 (sm : Nat), .int .i64 (gh : Nat), .pointer (some ⟨y, 0, none⟩)]) (hi : IRepI w y Fy C n) (hd : Dis F1 Fy) (hm : n ≤ (K 0).length + (K 1).length) (hc : CInv K C)
  (hg : EGo IRepS 3 225 w e g cap x F1 K' [.int .i64 (c : Nat), .int .i64 (sm : Nat), .int .i64 (gh : Nat), .pointer (some ⟨y, 0, none⟩)] w') : SGo w e g cap x y c sm gh (F1 ++ Fy) K' C w' := by
 obtain ⟨F2, h2, hs2, hf2⟩ := hg
 exact ⟨F2 ++ Fy, ⟨F2, Fy, n, rfl, h2, hi.fr hf2 hd.symm, hd.sub hs2 hi.lt, by rw [hl, hl1]; exact hm, hc.rows h2.nd hl hl1⟩, append_sub hs2, hf2.mono (fun q hq _ => by simp [hq])⟩
theorem spushG (H : SR w e g cap x y c sm gh F K C) (ht : tot 3 K ≤ 70000) (key : ByteArray) (hz : key.size ≤ maxLen) (h0 : key ∉ K 0) (h1 : key ∉ K 1) :
  Calls Tryz.prog 449 #[.agg #[.slice (some ⟨g, 0, none⟩) 3 cap, .pointer (some ⟨x, 0, none⟩)], .int .i64 2, .string key] w fun en w' => en = .returned (.tuple #[]) ∧ SGo w e g cap x y c sm gh F (pushK K 2 key) C w' := by
 obtain ⟨F1, Fy, m, rfl, h, hi, hd, hm, hc⟩ := H
 refine (epushS h (by omega) (r := 2) (by decide) key hz).mono ?_
 rintro en w' ⟨rfl, hg⟩
 exact ⟨rfl, SR.ghosts (by rw [push_other (by decide), dropK_not h0]) (by rw [push_other (by decide), dropK_not h1]) h hi hd hm hc hg⟩
theorem sdropG (H : SR w e g cap x y c sm gh F K C) (ht : tot 3 K ≤ 70000) (key : ByteArray) (hz : key.size ≤ maxLen) (h0 : key ∉ K 0) (h1 : key ∉ K 1) :
  Calls Tryz.prog 451 #[.agg #[.slice (some ⟨g, 0, none⟩) 3 cap, .pointer (some ⟨x, 0, none⟩)], .string key] w fun en w' => en = .returned (.tuple #[]) ∧ SGo w e g cap x y c sm gh F (dropK K key) C w' := by
 obtain ⟨F1, Fy, m, rfl, h, hi, hd, hm, hc⟩ := H
 refine (edropS h (by omega) key hz).mono ?_
 rintro en w' ⟨rfl, hg⟩
 exact ⟨rfl, SR.ghosts (dropK_not h0) (dropK_not h1) h hi hd hm hc hg⟩
def EvS2 (w : World) (e g cap x y c sm gh : Nat) (F : List Nat) (o : Option ByteArray) (K : Rows) (C : Cnt) (en : Ending) (w' : World) : Prop := en = .returned (.tuple #[.string (o.getD ⟨#[]⟩), .bool o.isSome]) ∧ SGo w e g cap x y c sm gh F K C w'
set_option maxHeartbeats 8000000 in
set_option maxRecDepth 100000 in
theorem sfromSmall (H : SR w e g cap x y c sm gh F K C) (ht : tot 3 K ≤ 60000) (hgh : gh ≤ 1024) (f : Nat) (hf : (K 0).length < f) :
  Calls Tryz.prog 442 #[.pointer (some ⟨e, 0, none⟩)] w (EvS2 w e g cap x y c sm gh F (s3Small gh f K C).1 (s3Small gh f K C).2.1 (s3Small gh f K C).2.2) := by
 obtain ⟨res, hres⟩ : ∃ r, s3Small gh f K C = r := ⟨_, rfl⟩
 rw [hres]
 have HR := Lib.hid hres
 clear hres
 have H0 := Lib.hid H
 clear H
 go_enter Tryz.func442, Tryz.ntmps442
 go_wp2_with fail
 go_loopg [] f (fun gg wr => ∃ (Kc : Rows) (Cc : Cnt) (Fc : List Nat), Aside (∃ f', f' = gg ∧ s3Small gh f' Kc Cc = res ∧ (Kc 0).length < f') ∧ tot 3 Kc ≤ 60000 ∧ SR wr e g cap x y c sm gh Fc Kc Cc ∧ Sub Fc F w ∧ Fr F w wr)
 case atStart => exact ⟨K, C, F, ⟨f, rfl, HR.out, hf⟩, ht, H0.out, Sub.refl _ _, Fr.refl _ _⟩
 case round =>
  obtain ⟨Kc, Cc, Fc, hA, htc, H, hsc, hgc⟩ := hrel
  have k0 := H.k0
  have k1 := H.k1
  have hci := H.ci
  have hsz := oldest_sz hci.nd 0
  obtain ⟨n0, hn0⟩ : ∃ n, (Kc 0).length = n := ⟨_, rfl⟩
  have hb0 : n0 ≤ 60000 := by rw [← hn0]; exact Nat.le_trans (len_tot (by omega)) htc
  have HX := Lib.hid (And.intro hsc (And.intro hgc (And.intro hci hn0)))
  clear hsc hgc hci
  go_wp2_with fail
  refine (H.many1 0 (by decide) hn0).mono ?_
  rintro en w1 ⟨rfl, hf1⟩
  replace H := H.fr0 hf1
  replace k0 := H.k0
  replace k1 := H.k1
  clear hn0
  by_cases hz0 : n0 = 0
  ·subst hz0
   have HS := Lib.hid (And.intro H hf1)
   clear H k0 k1 hf1
   go_wp2_with fail
   go_ret2
   obtain ⟨hsc, hgc, hci, hn0⟩ := HX.out
   obtain ⟨f', a0, a1, a2⟩ := hA.out
   obtain ⟨f2, rfl⟩ : ∃ f2, f' = f2 + 1 := ⟨f' - 1, by omega⟩
   unfold s3Small at a1
   rw [if_pos hn0] at a1
   rw [← a1]
   exact ⟨rfl, Fc, HS.out.1, hsc, hgc.same HS.out.2.nil⟩
  ·have q0 : (0 : Int) < (n0 : Int) := by omega
   go_wp2_with fail
   refine (H.oldest (r := 0) (by decide)).mono ?_
   rintro en w2 ⟨rfl, hf2⟩
   replace H := H.fr0 hf2
   have hF := hf1.same hf2
   have k5 := H.k5
   clear k0 k1 hf1 hf2
   go_wp2_with fail
   refine (sget H (oldest Kc 0) hsz).mono ?_
   rintro en w3 ⟨b, rfl, hf3⟩
   replace hF := hF.same hf3
   replace H := H.fr0 hf3
   have HF := Lib.hid hF
   obtain ⟨n, hn⟩ : ∃ n, cntOf Cc (oldest Kc 0) = n := ⟨_, rfl⟩
   have hn3 : n ≤ 3 := by rw [← hn]; exact cnt_le3 HX.out.2.2.1 _
   have HN := Lib.hid hn
   rw [hn]
   clear hF hf3 k5 hn
   by_cases hn1 : 1 < n
   ·have q1 : (1 : Int) < (n : Int) := by omega
    go_wp2_with fail
    refine (scomes H (by omega) (r := 1) (by decide) _ hsz (n := 0) (by omega)).mono ?_
    rintro en w4 ⟨rfl, F3, H3, hs3, hg3⟩
    have HG := Lib.hid (And.intro H3 (And.intro hs3 hg3))
    clear H H3 hs3 hg3
    go_wp2_with fail
    obtain ⟨hsc, hgc, hci, hn0⟩ := HX.out
    obtain ⟨H3, hs3, hg3⟩ := HG.out
    obtain ⟨f', a0, a1, a2⟩ := hA.out
    obtain ⟨f2, rfl⟩ : ∃ f2, f' = f2 + 1 := ⟨f' - 1, by omega⟩
    have hm := oldest_mem (K := Kc) (r := 0) (by omega)
    have htm := tot_move hci.nd hm (r := 1) (by decide) (by decide)
    have hpl := push_move hci.nd hm 1 0
    simp at hpl
    unfold s3Small at a1
    rw [if_neg (by omega), HN.out, if_pos hn1] at a1
    have hs4 := hs3.old HF.out.size
    have hg4 := HF.out.nil.same hg3
    go_roundg f2
    case measure => omega
    case rel => exact ⟨_, _, F3, ⟨f2, rfl, a1, by omega⟩, by omega, H3, hsc.fr hgc hs4, hgc.via hsc hg4⟩
   ·have q1 : (n : Int) ≤ 1 := by omega
    go_wp2_with fail
    refine (sgoes H (by omega) _ hsz).mono ?_
    rintro en w4 ⟨rfl, F3, H3, hs3, hg3⟩
    have hdt := tot_drop 3 Kc (oldest Kc 0)
    replace hs3 := hs3.old HF.out.size
    replace hg3 := HF.out.nil.same hg3
    have k0 := H3.k0
    have k1 := H3.k1
    clear H
    go_wp2_with fail
    refine (spushG H3 (by omega) _ hsz (not_mem_dropK 0) (not_mem_dropK 1)).mono ?_
    rintro en w5 ⟨rfl, F4, H4, hs4, hg4⟩
    have hs5 := hs3.fr hg3 hs4
    have hg5 := hg3.via hs3 hg4
    obtain ⟨K1, hK1⟩ : ∃ K1, pushK Kc 2 (oldest Kc 0) = K1 := ⟨_, rfl⟩
    have hpd : pushK (dropK Kc (oldest Kc 0)) 2 (oldest Kc 0) = K1 := by
     rw [← hK1]; unfold pushK; rw [dropK_none (K := dropK Kc (oldest Kc 0)) not_mem_dropK]
    have htp := tot_push (K := Kc) (k := 3) (r := 2) (by decide) (oldest Kc 0)
    rw [hK1] at htp
    rw [hpd] at H4
    obtain ⟨C1, hC1⟩ : ∃ C1, upM Cc (oldest Kc 0) none = C1 := ⟨_, rfl⟩
    rw [hC1] at H4
    obtain ⟨key, hkey⟩ : ∃ key, oldest Kc 0 = key := ⟨_, rfl⟩
    have HRes : Hid (res = (some key, trim K1 2 gh, C1)) := by
     show _ = _
     obtain ⟨hsc, hgc, hci, hn0⟩ := HX.out
     obtain ⟨f', a0, a1, a2⟩ := hA.out
     obtain ⟨f2, rfl⟩ : ∃ f2, f' = f2 + 1 := ⟨f' - 1, by omega⟩
     unfold s3Small at a1
     rw [if_neg (by omega), HN.out, if_neg hn1, hK1, hC1, hkey] at a1
     exact a1.symm
    rw [hkey]
    clear H3 hs3 hg3 k0 k1 hs4 hg4 hK1 hpd hC1 hkey
    go_wp2_with fail
    go_loopg [] (K1 2).length (fun gg wq => ∃ (Kd : Rows) (Fd : List Nat), Aside (trim Kd 2 gh = trim K1 2 gh ∧ (Kd 2).length = gg) ∧ tot 3 Kd ≤ 60001 ∧ SR wq e g cap x y c sm gh Fd Kd C1 ∧ Sub Fd Fc wr ∧ Fr Fc wr wq)
    case atStart => exact ⟨K1, F4, ⟨rfl, rfl⟩, by omega, H4, hs5, hg5⟩
    case round =>
     clear hs5 hg5 H4
     obtain ⟨Kd, Fd, hB, htd, H, hsd, hgd⟩ := hrel
     obtain ⟨n1, hn1e⟩ : ∃ n, (Kd 2).length = n := ⟨_, rfl⟩
     have hb1 : n1 ≤ 60001 := by rw [← hn1e]; exact Nat.le_trans (len_tot (by omega)) htd
     have k0 := H.k0
     have k1 := H.k1
     have k4 := H.k4
     have HN1 := Lib.hid hn1e
     clear hn1e
     by_cases hlt : gh < n1
     ·have q9 : (gh : Int) < (n1 : Int) := by omega
      go_wp2_with fail
      first
       | (go_region_held3 (fun w' => w'.cell? ⟨e, 0, none⟩ = some (.slice (some ⟨g, 0, none⟩) 3 cap) ∧ w'.cell? ⟨e, 1, none⟩ = some (.pointer (some ⟨x, 0, none⟩)) ∧ w'.cell? ⟨e, 4, none⟩ = some (.int .i64 gh))
         (first
          | (have _h := hf6; exact ⟨cell_fr (((Fr.refl [] _).drew).same hf6) k0 (by simp), cell_fr (((Fr.refl [] _).drew).same hf6) k1 (by simp), cell_fr (((Fr.refl [] _).drew).same hf6) k4 (by simp)⟩)
          | exact ⟨k0, k1, k4⟩
          | exact ⟨cell_fr (((Fr.refl [] _).drew).alloc _) k0 (by simp), cell_fr (((Fr.refl [] _).drew).alloc _) k1 (by simp), cell_fr (((Fr.refl [] _).drew).alloc _) k4 (by simp)⟩)
         (first
          | (go_at_call 441; refine ((H.fr0 ((Fr.refl [] _).drew)).many1 2 (by decide) HN1.out).mono ?_; rintro en w6 ⟨rfl, hf6⟩)))
       | fail
      have hF := ((Fr.refl [] _).drew).same hf6
      replace H := H.fr0 hF
      replace k0 := H.k0
      replace k1 := H.k1
      replace k4 := H.k4
      have HF6 := Lib.hid hF
      clear hF hf6
      have hci := H.ci
      have hm := oldest_mem (K := Kd) (r := 2) (by rw [HN1.out]; omega)
      have hno0 : oldest Kd 2 ∉ Kd 0 := fun h => hci.nd.dis 2 0 (by decide) _ hm h
      have hno1 : oldest Kd 2 ∉ Kd 1 := fun h => hci.nd.dis 2 1 (by decide) _ hm h
      have hsz2 := oldest_sz hci.nd 2
      have hst := trim_step hci.nd (r := 2) (n := gh) (by rw [HN1.out]; exact hlt)
      have hdl := drop_len_in hci.nd hm 2
      have hdt2 := tot_drop 3 Kd (oldest Kd 2)
      simp at hdl
      have HM := Lib.hid (And.intro hst (And.intro hdl hci))
      clear hst hdl hm hci
      go_wp2_with fail
      first
       | (go_region_held3 (fun w' => w'.cell? ⟨e, 0, none⟩ = some (.slice (some ⟨g, 0, none⟩) 3 cap) ∧ w'.cell? ⟨e, 1, none⟩ = some (.pointer (some ⟨x, 0, none⟩)) ∧ w'.cell? ⟨e, 4, none⟩ = some (.int .i64 gh))
         (first
          | (have _h := hg7; exact ⟨H7.k0, H7.k1, H7.k4⟩)
          | (have _h := hf6; exact ⟨cell_fr (((Fr.refl [] _).drew).same hf6) k0 (by simp), cell_fr (((Fr.refl [] _).drew).same hf6) k1 (by simp), cell_fr (((Fr.refl [] _).drew).same hf6) k4 (by simp)⟩)
          | exact ⟨k0, k1, k4⟩)
         (first
          | (have _h := hf6; go_at_call 451; refine (sdropG (H.fr0 (((Fr.refl [] _).drew).same hf6)) (by omega) _ hsz2 hno0 hno1).mono ?_; rintro en w8 ⟨rfl, F7, H7, hs7, hg7⟩)
          | (go_at_call 450; refine ((H.fr0 ((Fr.refl [] _).drew)).oldest (r := 2) (by decide)).mono ?_; rintro en w7 ⟨rfl, hf6⟩)))
       | fail
      have hF7 := HF6.out.same (((Fr.refl [] _).drew).same hf6)
      have hs8 := hs7.old hF7.size
      have hg8 := hF7.nil.same hg7
      have H8 := Lib.hid (And.intro H7 (And.intro hs8 hg8))
      clear H H7 hs7 hg7 hf6 k0 k1 k4 hF7 hs8 hg8
      go_wp2_with fail
      obtain ⟨hst, hdl, hci⟩ := HM.out
      obtain ⟨e1, e2⟩ := hB.out
      go_roundg ((dropK Kd (oldest Kd 2)) 2).length
      case measure => rw [← e2]; omega
      case rel => exact ⟨_, F7, ⟨hst.trans e1, rfl⟩, by omega, H8.out.1, hsd.fr hgd H8.out.2.1, hgd.via hsd H8.out.2.2⟩
     ·have q9 : (n1 : Int) ≤ (gh : Int) := by omega
      go_wp2_with fail
      first
       | (go_region_held3 (fun w' => w'.cell? ⟨e, 0, none⟩ = some (.slice (some ⟨g, 0, none⟩) 3 cap) ∧ w'.cell? ⟨e, 1, none⟩ = some (.pointer (some ⟨x, 0, none⟩)) ∧ w'.cell? ⟨e, 4, none⟩ = some (.int .i64 gh))
         (first
          | (have _h := hf6; exact ⟨cell_fr (((Fr.refl [] _).drew).same hf6) k0 (by simp), cell_fr (((Fr.refl [] _).drew).same hf6) k1 (by simp), cell_fr (((Fr.refl [] _).drew).same hf6) k4 (by simp)⟩)
          | exact ⟨k0, k1, k4⟩
          | exact ⟨cell_fr (((Fr.refl [] _).drew).alloc _) k0 (by simp), cell_fr (((Fr.refl [] _).drew).alloc _) k1 (by simp), cell_fr (((Fr.refl [] _).drew).alloc _) k4 (by simp)⟩)
         (first
          | (go_at_call 441; refine ((H.fr0 ((Fr.refl [] _).drew)).many1 2 (by decide) HN1.out).mono ?_; rintro en w6 ⟨rfl, hf6⟩)))
       | fail
      have hF := ((Fr.refl [] _).drew).same hf6
      have HE := Lib.hid (And.intro (H.fr0 hF) hF)
      clear H k0 k1 k4 hF hf6
      go_wp2_with fail
      go_ret2
      obtain ⟨hsc, hgc, hci, hn0⟩ := HX.out
      obtain ⟨e1, e2⟩ := hB.out
      have hle := trim_le (K := Kd) (r := 2) (n := gh) (by rw [HN1.out]; omega)
      rw [hle] at e1
      rw [HRes.out, ← e1]
      exact ⟨rfl, Fd, HE.out.1, hsc.fr hgc hsd, (hgc.via hsc hgd).same HE.out.2.nil⟩
end
end Go.Proofs.YtphlancijlljcaaGreat
