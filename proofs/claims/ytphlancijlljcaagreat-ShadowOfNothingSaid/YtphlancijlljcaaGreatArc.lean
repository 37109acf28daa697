/- The walks over arc's engine. -/
import Derived.Test.YtphlancijlljcaaGreatEng
set_option linter.unusedVariables false
set_option linter.unusedSimpArgs false
namespace Go.Proofs.YtphlancijlljcaaGreat
open Go.RowKit
attribute [local go_sem ↓] Go.wp_at_zero Go.wp_at_succ
section
variable {w : World} {e g cap x : Nat} {F : List Nat} {K : Rows} {c p : Nat}
set_option maxRecDepth 100000 in
theorem aousts_false (H : ERows IRepA 4 197 w e g cap x F K [.int .i64 c, .int .i64 p]) (ht : tot 4 K ≤ 70000) :
    Calls Tryz.prog 305 #[.pointer (some ⟨e, 0, none⟩), .bool false] w (GRet IRepA 4 197 w e g cap x F (arcOusts K false).1 (arcOusts K false).2 [.int .i64 c, .int .i64 p]) := by
  have k0 := H.k0
  have k1 := H.k1
  have ho := oldest_sz H.nd 1
  go_enter Tryz.func305, Tryz.ntmps305
  go_wp2_with fail
  refine (eoldestA H (r := 1) (by omega)).mono ?_
  rintro en w1 ⟨rfl, hf1⟩
  have H1 := H.fr0 irokA hf1
  have k0 := H1.k0
  have k1 := H1.k1
  go_wp2_with fail
  refine (epushA H1 (by omega) (r := 3) (by omega) _ ho).mono ?_
  rintro en w2 ⟨rfl, hg⟩
  have hsz := hg.size
  clear H H1 k0 k1
  go_wp2
  go_ret
  exact GRet.one irokA (hg.old hf1) _ rfl
set_option maxRecDepth 100000 in
theorem aousts_true (H : ERows IRepA 4 197 w e g cap x F K [.int .i64 c, .int .i64 p]) (ht : tot 4 K ≤ 70000) :
    Calls Tryz.prog 305 #[.pointer (some ⟨e, 0, none⟩), .bool true] w (GRet IRepA 4 197 w e g cap x F (arcOusts K true).1 (arcOusts K true).2 [.int .i64 c, .int .i64 p]) := by
  have k0 := H.k0
  have k1 := H.k1
  have ho := oldest_sz H.nd 0
  go_enter Tryz.func305, Tryz.ntmps305
  go_wp2_with fail
  refine (eoldestA H (r := 0) (by omega)).mono ?_
  rintro en w1 ⟨rfl, hf1⟩
  have H1 := H.fr0 irokA hf1
  have k0 := H1.k0
  have k1 := H1.k1
  go_wp2_with fail
  refine (epushA H1 (by omega) (r := 2) (by omega) _ ho).mono ?_
  rintro en w2 ⟨rfl, hg⟩
  have hsz := hg.size
  clear H H1 k0 k1
  go_wp2
  go_ret
  exact GRet.one irokA (hg.old hf1) _ rfl
theorem aousts (H : ERows IRepA 4 197 w e g cap x F K [.int .i64 c, .int .i64 p]) (ht : tot 4 K ≤ 70000) (b : Bool) :
    Calls Tryz.prog 305 #[.pointer (some ⟨e, 0, none⟩), .bool b] w (GRet IRepA 4 197 w e g cap x F (arcOusts K b).1 (arcOusts K b).2 [.int .i64 c, .int .i64 p]) := by
  cases b
  · exact aousts_false H ht
  · exact aousts_true H ht
set_option maxRecDepth 100000 in
theorem areplaces (H : ERows IRepA 4 197 w e g cap x F K [.int .i64 c, .int .i64 p]) (ht : tot 4 K ≤ 70000) (hc : c ≤ 1024) (hp : p ≤ 1024) (b : Bool) :
    Calls Tryz.prog 303 #[.pointer (some ⟨e, 0, none⟩), .bool b] w (GRet IRepA 4 197 w e g cap x F (arcRepl K p c b).1 (arcRepl K p c b).2 [.int .i64 c, .int .i64 p]) := by
  have k0 := H.k0
  have k1 := H.k1
  have k2 := H.kr (j := 0) rfl
  have k3 := H.kr (j := 1) rfl
  simp only [Nat.zero_add, Nat.reduceAdd] at k2 k3
  have l0 : (K 0).length ≤ 70000 := Nat.le_trans (len_tot (by omega)) ht
  have l1 : (K 1).length ≤ 70000 := Nat.le_trans (len_tot (by omega)) ht
  obtain ⟨n, hn⟩ : ∃ n, (K 0).length = n := ⟨_, rfl⟩
  obtain ⟨m, hm⟩ : ∃ m, (K 1).length = m := ⟨_, rfl⟩
  rw [hn] at l0
  rw [hm] at l1
  have hrep : arcRepl K p c b = if n + m < c then ([], K) else arcOusts K (decide (0 < n ∧ (p < n ∨ (n = p ∧ b = true) ∨ m = 0))) := by
    unfold arcRepl arcRec; rw [hn, hm]
  obtain ⟨res, hres⟩ : ∃ r, arcRepl K p c b = r := ⟨_, rfl⟩
  rw [hres] at hrep ⊢
  have HR := Lib.hid hrep
  have HS : Hid ((K 0).length + (K 1).length = n + m) := by show _ = _; rw [hn, hm]
  have HN := Lib.hid hn
  have HM := Lib.hid hm
  clear hrep hres hn hm
  go_enter Tryz.func303, Tryz.ntmps303
  go_wp2_with fail
  go_region_held3 (fun w' => w'.cell? ⟨e, 0, none⟩ = some (.slice (some ⟨g, 0, none⟩) 4 cap) ∧ w'.cell? ⟨e, 1, none⟩ = some (.pointer (some ⟨x, 0, none⟩)) ∧ w'.cell? ⟨e, 2, none⟩ = some (.int .i64 c))
    (first
      | exact ⟨k0, k1, k2⟩
      | exact ⟨cell_fr (((Fr.refl [] _).drew).alloc _) k0 (by simp), cell_fr (((Fr.refl [] _).drew).alloc _) k1 (by simp), cell_fr (((Fr.refl [] _).drew).alloc _) k2 (by simp)⟩
      | exact ⟨cell_fr (((Fr.refl [] _).drew).same hf1) k0 (by simp), cell_fr (((Fr.refl [] _).drew).same hf1) k1 (by simp), cell_fr (((Fr.refl [] _).drew).same hf1) k2 (by simp)⟩)
    (first
      | (go_at_call 302; refine (emany2A (H.fr0 irokA ((Fr.refl [] _).drew)) 0 1 (by decide) (by decide) HS.out).mono ?_; rintro en w1 ⟨rfl, hf1⟩))
  have hfz : Fr [] w w1 := ((Fr.refl [] _).drew).same hf1
  have k0 := cell_fr hfz k0 (by simp)
  have k1 := cell_fr hfz k1 (by simp)
  have k2 := cell_fr hfz k2 (by simp)
  have k3 := cell_fr hfz k3 (by simp)
  clear hf1
  by_cases hlt : n + m < c
  · go_wp2
    go_ret
    have hR : res = ([], K) := by rw [HR.out, if_pos hlt]
    rw [hR]
    exact GRet.nil ((EGo.refl H).fr irokA hfz)
  · have H1 := H.fr0 irokA hfz
    go_wp2_with fail
    refine (emany1A H1 0 (by decide) HN.out).mono ?_
    rintro en w2 ⟨rfl, hf2⟩
    have hfz2 := hfz.same hf2
    have hfz := hf2
    have k0 := cell_fr hfz k0 (by simp)
    have k1 := cell_fr hfz k1 (by simp)
    have k2 := cell_fr hfz k2 (by simp)
    have k3 := cell_fr hfz k3 (by simp)
    have hfz := hfz2
    clear hf2 hfz2
    by_cases h0 : 0 < n
    · by_cases h1 : p < n
      · have hR : res = arcOusts K true := by rw [HR.out, if_neg hlt]; congr 1; simp [h0, h1]
        go_wp2_with fail
        refine (aousts (H.fr0 irokA hfz) ht _).mono ?_
        intro en wo hgr
        obtain ⟨v, Fo, rfl, hgo, heg⟩ := id hgr
        obtain ⟨va, vc, rfl⟩ := hgo.1.form
        clear hgo heg
        clear k0 k1 k2 k3
        go_wp2
        go_ret
        have hsz := hfz.size
        rw [hR]
        exact hgr.old hfz
      · by_cases h2 : n = p ∧ b = true
        · obtain ⟨rfl, rfl⟩ := h2
          have hR : res = arcOusts K true := by rw [HR.out, if_neg hlt]; congr 1; simp [h0]
          go_wp2_with fail
          refine (aousts (H.fr0 irokA hfz) ht _).mono ?_
          intro en wo hgr
          obtain ⟨v, Fo, rfl, hgo, heg⟩ := id hgr
          obtain ⟨va, vc, rfl⟩ := hgo.1.form
          clear hgo heg
          clear k0 k1 k2 k3
          go_wp2
          go_ret
          have hsz := hfz.size
          rw [hR]
          exact hgr.old hfz
        · have hR : res = arcOusts K (decide (m = 0)) := by rw [HR.out, if_neg hlt]; congr 1; simp [h0, h1, h2]
          have hcase : (((n : Int) == (p : Int)) = false) ∨ (n = p ∧ b = false) := by
            by_cases h3 : n = p
            · right; exact ⟨h3, by cases b <;> simp_all⟩
            · left; rw [beq_eq_false_iff_ne]; omega
          have hmc : (((m : Int) == 0) = false ∧ m ≠ 0) ∨ m = 0 := by
            by_cases h3 : m = 0
            · exact .inr h3
            · left; exact ⟨by rw [beq_eq_false_iff_ne]; omega, h3⟩
          rcases hcase with hq | ⟨rfl, rfl⟩
          ·
            have H2 := H.fr0 irokA hfz
            go_wp2_with fail
            refine (emany1A H2 1 (by decide) HM.out).mono ?_
            rintro en w3 ⟨rfl, hf3⟩
            have hfz2 := hfz.same hf3
            have hfz := hfz2
            clear hfz2 hf3 H2
            rcases hmc with ⟨hmc, hm0⟩ | rfl
            · rw [decide_eq_false hm0] at hR
              go_wp2_with fail
              refine (aousts (H.fr0 irokA hfz) ht _).mono ?_
              intro en wo hgr
              obtain ⟨v, Fo, rfl, hgo, heg⟩ := id hgr
              obtain ⟨va, vc, rfl⟩ := hgo.1.form
              clear hgo heg
              clear k0 k1 k2 k3
              go_wp2
              go_ret
              have hsz := hfz.size
              rw [hR]
              exact hgr.old hfz
            · rw [decide_eq_true rfl] at hR
              go_wp2_with fail
              refine (aousts (H.fr0 irokA hfz) ht _).mono ?_
              intro en wo hgr
              obtain ⟨v, Fo, rfl, hgo, heg⟩ := id hgr
              obtain ⟨va, vc, rfl⟩ := hgo.1.form
              clear hgo heg
              clear k0 k1 k2 k3
              go_wp2
              go_ret
              have hsz := hfz.size
              rw [hR]
              exact hgr.old hfz
          ·
            have H2 := H.fr0 irokA hfz
            go_wp2_with fail
            refine (emany1A H2 1 (by decide) HM.out).mono ?_
            rintro en w3 ⟨rfl, hf3⟩
            have hfz2 := hfz.same hf3
            have hfz := hfz2
            clear hfz2 hf3 H2
            rcases hmc with ⟨hmc, hm0⟩ | rfl
            · rw [decide_eq_false hm0] at hR
              go_wp2_with fail
              refine (aousts (H.fr0 irokA hfz) ht _).mono ?_
              intro en wo hgr
              obtain ⟨v, Fo, rfl, hgo, heg⟩ := id hgr
              obtain ⟨va, vc, rfl⟩ := hgo.1.form
              clear hgo heg
              clear k0 k1 k2 k3
              go_wp2
              go_ret
              have hsz := hfz.size
              rw [hR]
              exact hgr.old hfz
            · rw [decide_eq_true rfl] at hR
              go_wp2_with fail
              refine (aousts (H.fr0 irokA hfz) ht _).mono ?_
              intro en wo hgr
              obtain ⟨v, Fo, rfl, hgo, heg⟩ := id hgr
              obtain ⟨va, vc, rfl⟩ := hgo.1.form
              clear hgo heg
              clear k0 k1 k2 k3
              go_wp2
              go_ret
              have hsz := hfz.size
              rw [hR]
              exact hgr.old hfz
    · have hR : res = arcOusts K false := by rw [HR.out, if_neg hlt]; congr 1; simp [h0]
      go_wp2_with fail
      refine (aousts (H.fr0 irokA hfz) ht _).mono ?_
      intro en wo hgr
      obtain ⟨v, Fo, rfl, hgo, heg⟩ := id hgr
      obtain ⟨va, vc, rfl⟩ := hgo.1.form
      clear hgo heg
      clear k0 k1 k2 k3
      go_wp2
      go_ret
      have hsz := hfz.size
      rw [hR]
      exact hgr.old hfz
end
end Go.Proofs.YtphlancijlljcaaGreat
