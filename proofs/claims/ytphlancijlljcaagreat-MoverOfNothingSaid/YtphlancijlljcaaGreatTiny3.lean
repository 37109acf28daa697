/- The walks over tinylfu's engine: admits. -/
import Derived.Test.YtphlancijlljcaaGreatG5
set_option linter.unusedVariables false
set_option linter.unusedSimpArgs false
namespace Go.Proofs.YtphlancijlljcaaGreat
open Go.RowKit
open Act renaming put → pE0
open List renaming getElem_toArray → pE1, getElem_cons_succ → pE2, getElem_cons_zero → pE3, setIfInBounds_toArray → pE4, set_cons_zero → pE5, set_cons_succ → pE6
attribute [local go_sem ↓] Go.wp_at_zero Go.wp_at_succ
theorem calls_base {P : Program} {f : FuncId} {args : Array Value} {w0 W : World} {v : Ending} (h : Calls P f args W fun en w' => en = v ∧ Fr [] W w') (k : Fr [] w0 W) : Calls P f args W fun en w' => en = v ∧ Fr [] w0 w' :=
 h.mono fun _ _ h => ⟨h.1, k.same h.2⟩
def oft (k : Sk) (d : Dr) (key : ByteArray) : Nat := k.count key + (d.has key).toNat
def UGRet (u : UC) (w : World) (F : List Nat) (l : List ByteArray) (K : Rows) (k : Sk) (d : Dr) (en : Ending) (w' : World) : Prop :=
 ∃ v F', en = .returned v ∧ Gone w w' v l ∧ UR u w' F' K k d ∧ Sub F' F w ∧ Fr F w w' ∧ Dis v.ownBlock.toList F'
section
variable {u : UC} {w w0 w1 : World} {F : List Nat} {K : Rows} {k : Sk} {d : Dr}
theorem UR.nd (H : UR u w F K k d) : RNd 3 K := by
 obtain ⟨F1, h⟩ := H.er
 exact h.nd
theorem UR.push (H : UR u w F K k d) (ht : tot 3 K ≤ 80000) {r : Nat} (hr : r < 3) (key : ByteArray) (hz : key.size ≤ maxLen) :
  Calls Tryz.prog 403 #[(.agg #[.slice (some ⟨u.g, 0, none⟩) 3 u.cap, .pointer (some ⟨u.x, 0, none⟩)]), .int .i64 r, .string key] w fun en w' => en = .returned (.tuple #[]) ∧ UGo u w F (pushK K r key) k d w' := by
 obtain ⟨F1, Fk, Fd, rfl, a, b, c, d1, d2, d3⟩ := H
 refine (epushU a ht hr key hz).mono ?_
 rintro en w' ⟨rfl, h⟩
 exact ⟨rfl, UR.rows b c d1 d2 d3 h⟩
theorem UR.drop (H : UR u w F K k d) (ht : tot 3 K ≤ 80000) (key : ByteArray) (hz : key.size ≤ maxLen) :
  Calls Tryz.prog 408 #[(.agg #[.slice (some ⟨u.g, 0, none⟩) 3 u.cap, .pointer (some ⟨u.x, 0, none⟩)]), .string key] w fun en w' => en = .returned (.tuple #[]) ∧ UGo u w F (dropK K key) k d w' := by
 obtain ⟨F1, Fk, Fd, rfl, a, b, c, d1, d2, d3⟩ := H
 refine (edropU a ht key hz).mono ?_
 rintro en w' ⟨rfl, h⟩
 exact ⟨rfl, UR.rows b c d1 d2 d3 h⟩
theorem UR.oldest (H : UR u w F K k d) {r : Nat} (hr : r < 3) {o : ByteArray} (ho : oldest K r = o) :
  Calls Tryz.prog 405 #[(.agg #[.slice (some ⟨u.g, 0, none⟩) 3 u.cap, .pointer (some ⟨u.x, 0, none⟩)]), .int .i64 r] w fun en w' => en = .returned (.string o) ∧ Fr [] w w' := by
 obtain ⟨F1, h⟩ := H.er
 rw [← ho]
 exact eoldestU h hr
theorem UR.where (H : UR u w F K k d) (key : ByteArray) (hz : key.size ≤ maxLen) :
  Calls Tryz.prog 402 #[(.agg #[.slice (some ⟨u.g, 0, none⟩) 3 u.cap, .pointer (some ⟨u.x, 0, none⟩)]), .string key] w fun en w' => ∃ r : Int, en = .returned (.int .i64 r) ∧ AtRow 3 K key r ∧ Fr [] w w' := by
 obtain ⟨F1, h⟩ := H.er
 exact ewhereU h key hz
theorem UR.many1 (H : UR u w F K k d) (a : Nat) (ha : a < 3) {s : Nat} (hs : (K a).length = s) {T0 : TypeId} :
  Calls Tryz.prog 404 #[(.agg #[.slice (some ⟨u.g, 0, none⟩) 3 u.cap, .pointer (some ⟨u.x, 0, none⟩)]), .slice (some ⟨w.heap.size, 0, none⟩) 1 1] (w.alloc (.cells #[.int .i64 (a : Nat)] T0)) fun en w' => en = .returned (.int .i64 (s : Nat)) ∧ Fr [] w w' := by
 obtain ⟨F1, h⟩ := H.er
 exact emany1U h a ha hs
theorem UR.many2 (H : UR u w F K k d) (a b : Nat) (ha : a < 3) (hb : b < 3) {s : Nat} (hs : (K a).length + (K b).length = s) {T0 : TypeId} :
  Calls Tryz.prog 404 #[(.agg #[.slice (some ⟨u.g, 0, none⟩) 3 u.cap, .pointer (some ⟨u.x, 0, none⟩)]), .slice (some ⟨w.heap.size, 0, none⟩) 2 2] (w.alloc (.cells #[.int .i64 (a : Nat), .int .i64 (b : Nat)] T0)) fun en w' => en = .returned (.int .i64 (s : Nat)) ∧ Fr [] w w' := by
 obtain ⟨F1, h⟩ := H.er
 exact emany2U h a b ha hb hs
theorem UR.often (H : UR u w F K k d) (hk : k.Inv) (hd : d.Inv) (key : ByteArray) (hz : key.size ≤ maxLen) :
  Calls Tryz.prog 417 #[.pointer (some ⟨u.e, 0, none⟩), .string key] w fun en w' => en = .returned (.int .i64 (oft k d key : Nat)) ∧ Fr [] w w' := uoften H hk hd key hz rfl
theorem UGRet.nil (h : UGo u w F K k d w1) : UGRet u w F [] K k d (.returned (.slice none 0 0)) w1 := by
 obtain ⟨F', a, b, c⟩ := h
 exact ⟨_, F', rfl, Gone.nil _ _, a, b, c, by intro b hb; simp [Value.ownBlock] at hb⟩
theorem UGRet.one (h : UGo u w F K k d w1) (key : ByteArray) {T1 : TypeId} (hT : T1 = 9) : UGRet u w F [key] K k d (.returned (.slice (some ⟨w1.heap.size, 0, none⟩) 1 1)) (w1.alloc (.cells #[.string key] T1)) := by
 obtain ⟨F', a, b, c⟩ := h
 have hl := a.lt
 refine ⟨_, F', rfl, Gone.one _ _ c.size _ _ hT, a.fr0 ((Fr.refl [] _).alloc _), b, c.alloc _, ?_⟩
 intro q hq hf
 simp [Value.ownBlock] at hq
 have := hl q hf
 omega
set_option maxHeartbeats 1000000 in
set_option maxRecDepth 100000 in
theorem uadmits1 (H : UR u w F K k d) (ht : tot 3 K ≤ 70000) (hc : (K 1).length + (K 2).length < u.ma) :
  Calls Tryz.prog 406 #[.pointer (some ⟨u.e, 0, none⟩)] w (UGRet u w F [] (pushK K 1 (oldest K 0)) k d) := by
 have hsz := oldest_sz H.nd 0
 obtain ⟨o0, ho0⟩ : ∃ o, oldest K 0 = o := ⟨_, rfl⟩
 rw [ho0] at hsz
 obtain ⟨v, hv⟩ : ∃ v, vict K = v := ⟨_, rfl⟩
 obtain ⟨b, hb⟩ : ∃ b, decide (v ≠ 0) = b := ⟨_, rfl⟩
 obtain ⟨s, hs⟩ : ∃ s, (K 1).length + (K 2).length = s := ⟨_, rfl⟩
 have hs2 : s ≤ 140000 := by
  have h1 := len_tot (K := K) (k := 3) (i := 1) (by omega)
  have h2 := len_tot (K := K) (k := 3) (i := 2) (by omega)
  omega
 have HO := Lib.hid ho0
 have HVV := Lib.hid (And.intro hv hb)
 have HSS := Lib.hid hs
 rw [ho0]
 have q1 : (s : Int) < (u.ma : Int) := by omega
 clear hv hb ho0 hs hc
 obtain ⟨k0, k1, _, _, k4, _, _, _⟩ := H.cells
 go_enter Tryz.func406, Tryz.ntmps406
 go_wp2_with fail
 refine (H.oldest (r := 0) (by decide) HO.out).mono ?_
 rintro en w1 ⟨rfl, f1⟩
 have HH := Lib.hid (H.fr0 f1)
 have HF := Lib.hid f1
 clear H k0 k1 k4 f1
 go_wp2_with fail
 refine (uvictim HH.out (by omega) HVV.out.1 HVV.out.2).mono ?_
 rintro en w2 ⟨rfl, f2⟩
 have HH2 := Lib.hid (HH.out.fr0 f2)
 have HF2 := Lib.hid (HF.out.same f2)
 obtain ⟨k0, k1, _, _, k4, _, _, _⟩ := HH2.out.cells
 clear f2 HH HF
 go_wp2_with fail
 first
  | (go_region_held3 (fun w' => w'.cell? ⟨u.e, 0, none⟩ = some (.slice (some ⟨u.g, 0, none⟩) 3 u.cap) ∧ w'.cell? ⟨u.e, 1, none⟩ = some (.pointer (some ⟨u.x, 0, none⟩)) ∧ w'.cell? ⟨u.e, 4, none⟩ = some (.int .i64 (u.ma : Nat)))
    (first
     | (have _h := f3; exact ⟨cell_fr (((Fr.refl [] _).drew).same f3) k0 (by simp), cell_fr (((Fr.refl [] _).drew).same f3) k1 (by simp), cell_fr (((Fr.refl [] _).drew).same f3) k4 (by simp)⟩)
     | exact ⟨k0, k1, k4⟩
     | exact ⟨cell_fr (((Fr.refl [] _).drew).alloc _) k0 (by simp), cell_fr (((Fr.refl [] _).drew).alloc _) k1 (by simp), cell_fr (((Fr.refl [] _).drew).alloc _) k4 (by simp)⟩)
    (first
     | (go_at_call 404; refine ((HH2.out.fr0 ((Fr.refl [] _).drew)).many2 1 2 (by decide) (by decide) HSS.out).mono ?_; rintro en w3 ⟨rfl, f3⟩)))
  | fail
 have HH3 := Lib.hid ((HH2.out.fr0 ((Fr.refl [] _).drew)).fr0 f3)
 have HF3 := Lib.hid ((HF2.out.drew).same f3)
 obtain ⟨k0, k1, _, _, k4, _, _, _⟩ := HH3.out.cells
 clear f3 HH2 HF2
 go_wp2_with fail
 refine (HH3.out.push (by omega) (r := 1) (by decide) o0 hsz).mono ?_
 rintro en w4 ⟨rfl, hg⟩
 have HG := Lib.hid (hg.old HF3.out)
 clear hg k0 k1
 go_wp2
 go_ret
 exact UGRet.nil HG.out
set_option maxHeartbeats 1000000 in
set_option maxRecDepth 100000 in
theorem uadmits2 (H : UR u w F K k d) (ht : tot 3 K ≤ 70000) (hc : u.ma ≤ (K 1).length + (K 2).length) (hv0 : vict K = 0) :
  Calls Tryz.prog 406 #[.pointer (some ⟨u.e, 0, none⟩)] w (UGRet u w F [oldest K 0] (dropK K (oldest K 0)) k d) := by
 have hsz := oldest_sz H.nd 0
 obtain ⟨o0, ho0⟩ : ∃ o, oldest K 0 = o := ⟨_, rfl⟩
 rw [ho0] at hsz
 obtain ⟨v, hv⟩ : ∃ v, vict K = v := ⟨_, rfl⟩
 obtain ⟨b, hb⟩ : ∃ b, decide (v ≠ 0) = b := ⟨_, rfl⟩
 obtain ⟨s, hs⟩ : ∃ s, (K 1).length + (K 2).length = s := ⟨_, rfl⟩
 have hs2 : s ≤ 140000 := by
  have h1 := len_tot (K := K) (k := 3) (i := 1) (by omega)
  have h2 := len_tot (K := K) (k := 3) (i := 2) (by omega)
  omega
 have HO := Lib.hid ho0
 have HVV := Lib.hid (And.intro hv hb)
 have HSS := Lib.hid hs
 rw [ho0]
 have q1 : (u.ma : Int) ≤ (s : Int) := by omega
 have hv1 : v = 0 := by rw [← hv, hv0]
 have hb1 : b = false := by rw [← hb, hv1]; rfl
 subst hv1 hb1
 clear hv hb ho0 hs hc hv0
 obtain ⟨k0, k1, _, _, k4, _, _, _⟩ := H.cells
 go_enter Tryz.func406, Tryz.ntmps406
 go_wp2_with fail
 refine (H.oldest (r := 0) (by decide) HO.out).mono ?_
 rintro en w1 ⟨rfl, f1⟩
 have HH := Lib.hid (H.fr0 f1)
 have HF := Lib.hid f1
 clear H k0 k1 k4 f1
 go_wp2_with fail
 refine (uvictim HH.out (by omega) HVV.out.1 HVV.out.2).mono ?_
 rintro en w2 ⟨rfl, f2⟩
 have HH2 := Lib.hid (HH.out.fr0 f2)
 have HF2 := Lib.hid (HF.out.same f2)
 obtain ⟨k0, k1, _, _, k4, _, _, _⟩ := HH2.out.cells
 clear f2 HH HF
 go_wp2_with fail
 first
  | (go_region_held3 (fun w' => w'.cell? ⟨u.e, 0, none⟩ = some (.slice (some ⟨u.g, 0, none⟩) 3 u.cap) ∧ w'.cell? ⟨u.e, 1, none⟩ = some (.pointer (some ⟨u.x, 0, none⟩)) ∧ w'.cell? ⟨u.e, 4, none⟩ = some (.int .i64 (u.ma : Nat)))
    (first
     | (have _h := f3; exact ⟨cell_fr (((Fr.refl [] _).drew).same f3) k0 (by simp), cell_fr (((Fr.refl [] _).drew).same f3) k1 (by simp), cell_fr (((Fr.refl [] _).drew).same f3) k4 (by simp)⟩)
     | exact ⟨k0, k1, k4⟩
     | exact ⟨cell_fr (((Fr.refl [] _).drew).alloc _) k0 (by simp), cell_fr (((Fr.refl [] _).drew).alloc _) k1 (by simp), cell_fr (((Fr.refl [] _).drew).alloc _) k4 (by simp)⟩)
    (first
     | (go_at_call 404; refine ((HH2.out.fr0 ((Fr.refl [] _).drew)).many2 1 2 (by decide) (by decide) HSS.out).mono ?_; rintro en w3 ⟨rfl, f3⟩)))
  | fail
 have HH3 := Lib.hid ((HH2.out.fr0 ((Fr.refl [] _).drew)).fr0 f3)
 have HF3 := Lib.hid ((HF2.out.drew).same f3)
 obtain ⟨k0, k1, _, _, k4, _, _, _⟩ := HH3.out.cells
 clear f3 HH2 HF2
 go_wp2_with fail
 refine wp_region_held_drew (S := (fun w' => w'.cell? ⟨u.e, 0, none⟩ = some (.slice (some ⟨u.g, 0, none⟩) 3 u.cap) ∧ w'.cell? ⟨u.e, 1, none⟩ = some (.pointer (some ⟨u.x, 0, none⟩)) ∧ w'.cell? ⟨u.e, 4, none⟩ = some (.int .i64 (u.ma : Nat)))) (by kernel_rfl) ?hS0 (fun hHeld => ?_)
 case hS0 =>
  try dsimp only
  (exact ⟨k0, k1, k4⟩)
 refine tkH 0 (v := ?_) rfl (Or.inl ⟨by rfl, ?hy⟩) ?_
 case hy => intro w hSw; (try dsimp only at hSw); go_simp; try with_reducible rfl
 try simp only [pE0, pE1, pE2, pE3, pE4, pE5, pE6]
 refine tkH 1 (v := ?_) rfl (Or.inl ⟨by rfl, ?hy⟩) ?_
 case hy => intro w hSw; (try dsimp only at hSw); go_simp; try with_reducible rfl
 try simp only [pE0, pE1, pE2, pE3, pE4, pE5, pE6]
 refine tkH 2 (v := ?_) rfl (Or.inl ⟨by rfl, ?hy⟩) ?_
 case hy => intro w hSw; (try dsimp only at hSw); go_simp; try with_reducible rfl
 try simp only [pE0, pE1, pE2, pE3, pE4, pE5, pE6]
 refine skipsH (by kernel_rfl) [3, 4, 5, 6, 7, 8, 9, 10, 11, 12, 13, 14] _ _ (by kernel_rfl) (by kernel_rfl) ?hsm (fun _ _ _ _ h => h) (by assumption) ?_
 case hsm =>
  repeat (first | exact trivial | refine ⟨by kernel_rfl, ?_⟩)
 simp only [List.foldl, List.setIfInBounds_toArray, List.set_cons_zero, List.set_cons_succ]
 refine tkH 15 (v := ?_) rfl (Or.inl ⟨by rfl, ?hy⟩) ?_
 case hy => intro w hSw; (try dsimp only at hSw); go_simp; try with_reducible rfl
 try simp only [pE0, pE1, pE2, pE3, pE4, pE5, pE6]
 refine tkH 16 (v := ?_) rfl (Or.inl ⟨by rfl, ?hy⟩) ?_
 case hy => intro w hSw; (try dsimp only at hSw); go_simp; try with_reducible rfl
 try simp only [pE0, pE1, pE2, pE3, pE4, pE5, pE6]
 refine wpAnyH_done (by kernel_rfl) ?_ _
 go_wp2_with fail
 refine (HH3.out.fr0 ((Fr.refl [] _).drew) |>.drop (by omega) o0 hsz).mono ?_
 rintro en w4 ⟨rfl, hg⟩
 have HG := Lib.hid (hg.old HF3.out.drew)
 clear hg k0 k1 k4
 go_wp2
 go_ret
 exact UGRet.one HG.out _ rfl
theorem oft_le (hk : k.Inv) (hd : d.Inv) (key : ByteArray) : oft k d key ≤ 16 := by
 have := hk.le (k.at key 0)
 have := count_le k key 0 (by omega)
 unfold oft
 cases d.has key <;> simp <;> omega
set_option maxHeartbeats 4000000 in
set_option maxRecDepth 100000 in
theorem uadmits3 (H : UR u w F K k d) (hk : k.Inv) (hd : d.Inv) (ht : tot 3 K ≤ 70000) (hc : u.ma ≤ (K 1).length + (K 2).length) (hv0 : vict K ≠ 0) (hof : oft k d (oldest K 0) ≤ oft k d (oldest K (vict K))) :
  Calls Tryz.prog 406 #[.pointer (some ⟨u.e, 0, none⟩)] w (UGRet u w F [oldest K 0] (dropK K (oldest K 0)) k d) := by
 have hsz := oldest_sz H.nd 0
 obtain ⟨o0, ho0⟩ : ∃ o, oldest K 0 = o := ⟨_, rfl⟩
 rw [ho0] at hsz
 obtain ⟨v, hv⟩ : ∃ v, vict K = v := ⟨_, rfl⟩
 obtain ⟨b, hb⟩ : ∃ b, decide (v ≠ 0) = b := ⟨_, rfl⟩
 obtain ⟨s, hs⟩ : ∃ s, (K 1).length + (K 2).length = s := ⟨_, rfl⟩
 have hs2 : s ≤ 140000 := by
  have h1 := len_tot (K := K) (k := 3) (i := 1) (by omega)
  have h2 := len_tot (K := K) (k := 3) (i := 2) (by omega)
  omega
 have HO := Lib.hid ho0
 have HVV := Lib.hid (And.intro hv hb)
 have HSS := Lib.hid hs
 rw [hv] at hv0 hof
 rw [ho0] at hof ⊢
 have q1 : (u.ma : Int) ≤ (s : Int) := by omega
 have hbt : b = true := by rw [← hb]; simpa using hv0
 subst hbt
 have hv3 : v < 3 := by rw [← hv]; unfold vict; split; omega; split <;> omega
 obtain ⟨ov, hov⟩ : ∃ o, oldest K v = o := ⟨_, rfl⟩
 have hszv := oldest_sz H.nd v
 rw [hov] at hszv
 have HOV := Lib.hid hov
 have hof0 : oft k d o0 ≤ 16 := oft_le hk hd o0
 have hof1 : oft k d ov ≤ 16 := oft_le hk hd ov
 obtain ⟨n0, hn0⟩ : ∃ n, oft k d o0 = n := ⟨_, rfl⟩
 obtain ⟨n1, hn1⟩ : ∃ n, oft k d ov = n := ⟨_, rfl⟩
 have HN := Lib.hid (And.intro hn0 hn1)
 have HK := Lib.hid (And.intro hk hd)
 rw [hov, hn0, hn1] at hof
 have q2 : (n0 : Int) ≤ (n1 : Int) := by omega
 rw [← hn0, ← hn1] at q2
 clear hv hb ho0 hs hc hv0 hof hov hn0 hn1 hk hd
 obtain ⟨k0, k1, _, _, k4, _, _, _⟩ := H.cells
 go_enter Tryz.func406, Tryz.ntmps406
 go_wp2_with fail
 refine (H.oldest (r := 0) (by decide) HO.out).mono ?_
 rintro en w1 ⟨rfl, f1⟩
 have HH := Lib.hid (H.fr0 f1)
 have HF := Lib.hid f1
 clear H k0 k1 k4 f1
 go_wp2_with fail
 refine (uvictim HH.out (by omega) HVV.out.1 HVV.out.2).mono ?_
 rintro en w2 ⟨rfl, f2⟩
 have HH2 := Lib.hid (HH.out.fr0 f2)
 have HF2 := Lib.hid (HF.out.same f2)
 obtain ⟨k0, k1, _, _, k4, _, _, _⟩ := HH2.out.cells
 clear f2 HH HF
 go_wp2_with fail
 first
  | (go_region_held3 (fun w' => w'.cell? ⟨u.e, 0, none⟩ = some (.slice (some ⟨u.g, 0, none⟩) 3 u.cap) ∧ w'.cell? ⟨u.e, 1, none⟩ = some (.pointer (some ⟨u.x, 0, none⟩)) ∧ w'.cell? ⟨u.e, 4, none⟩ = some (.int .i64 (u.ma : Nat)))
    (first
     | (have _h := f3; exact ⟨cell_fr (((Fr.refl [] _).drew).same f3) k0 (by simp), cell_fr (((Fr.refl [] _).drew).same f3) k1 (by simp), cell_fr (((Fr.refl [] _).drew).same f3) k4 (by simp)⟩)
     | exact ⟨k0, k1, k4⟩
     | exact ⟨cell_fr (((Fr.refl [] _).drew).alloc _) k0 (by simp), cell_fr (((Fr.refl [] _).drew).alloc _) k1 (by simp), cell_fr (((Fr.refl [] _).drew).alloc _) k4 (by simp)⟩)
    (first
     | (go_at_call 404; refine ((HH2.out.fr0 ((Fr.refl [] _).drew)).many2 1 2 (by decide) (by decide) HSS.out).mono ?_; rintro en w3 ⟨rfl, f3⟩)))
  | fail
 have HH3 := Lib.hid ((HH2.out.fr0 ((Fr.refl [] _).drew)).fr0 f3)
 have HF3 := Lib.hid ((HF2.out.drew).same f3)
 obtain ⟨k0, k1, _, _, k4, _, _, _⟩ := HH3.out.cells
 clear f3 HH2 HF2
 have HOFT := Lib.hid fun (W : World) (f : Fr [] w3 W) (key : ByteArray) (hz : key.size ≤ maxLen) => calls_base ((HH3.out.fr0 f).often HK.out.1 HK.out.2 key hz) f
 have HOLD := Lib.hid fun (W : World) (f : Fr [] w3 W) => calls_base ((HH3.out.fr0 f).oldest (r := v) hv3 HOV.out) f
 go_wp2_with fail
 first
  | (go_region_held3 (fun w' => w'.cell? ⟨u.e, 0, none⟩ = some (.slice (some ⟨u.g, 0, none⟩) 3 u.cap) ∧ w'.cell? ⟨u.e, 1, none⟩ = some (.pointer (some ⟨u.x, 0, none⟩)) ∧ w'.cell? ⟨u.e, 4, none⟩ = some (.int .i64 (u.ma : Nat)))
    (first
     | exact ⟨k0, k1, k4⟩
     | exact ⟨cell_fr (by first | assumption | exact (Fr.refl [] _).drew | exact Fr.alloc (by assumption) _ | exact ((Fr.refl [] _).drew).alloc _) k0 (by simp), cell_fr (by first | assumption | exact (Fr.refl [] _).drew | exact Fr.alloc (by assumption) _ | exact ((Fr.refl [] _).drew).alloc _) k1 (by simp), cell_fr (by first | assumption | exact (Fr.refl [] _).drew | exact Fr.alloc (by assumption) _ | exact ((Fr.refl [] _).drew).alloc _) k4 (by simp)⟩)
    (first
     | (go_at_call 405; refine (HOLD.out _ (by first | assumption | exact (Fr.refl [] _).drew | exact Fr.alloc (by assumption) _ | exact ((Fr.refl [] _).drew).alloc _)).mono ?_; rintro en w5 ⟨rfl, f5⟩)
     | (go_at_call 417; refine (HOFT.out _ (by first | assumption | exact (Fr.refl [] _).drew | exact Fr.alloc (by assumption) _ | exact ((Fr.refl [] _).drew).alloc _) _ (by assumption)).mono ?_; rintro en w6 ⟨rfl, f6⟩)))
  | fail
 go_wp2_with fail
 refine ((HH3.out.fr0 (by first | assumption | exact (Fr.refl [] _).drew | exact Fr.alloc (by assumption) _ | exact ((Fr.refl [] _).drew).alloc _)).drop (by omega) o0 hsz).mono ?_
 rintro en w7 ⟨rfl, hg⟩
 have HG := Lib.hid (hg.old (HF3.out.same (by first | assumption | exact (Fr.refl [] _).drew | exact Fr.alloc (by assumption) _ | exact ((Fr.refl [] _).drew).alloc _)))
 clear hg k0 k1 k4
 go_wp2
 go_ret
 exact UGRet.one HG.out _ rfl
set_option maxHeartbeats 4000000 in
set_option maxRecDepth 100000 in
theorem uadmits4 (H : UR u w F K k d) (hk : k.Inv) (hd : d.Inv) (ht : tot 3 K ≤ 70000) (hc : u.ma ≤ (K 1).length + (K 2).length) (hv0 : vict K ≠ 0) (hof : oft k d (oldest K (vict K)) < oft k d (oldest K 0)) :
  Calls Tryz.prog 406 #[.pointer (some ⟨u.e, 0, none⟩)] w (UGRet u w F [oldest K (vict K)] (pushK (dropK K (oldest K (vict K))) 1 (oldest K 0)) k d) := by
 have hsz := oldest_sz H.nd 0
 obtain ⟨o0, ho0⟩ : ∃ o, oldest K 0 = o := ⟨_, rfl⟩
 rw [ho0] at hsz
 obtain ⟨v, hv⟩ : ∃ v, vict K = v := ⟨_, rfl⟩
 obtain ⟨b, hb⟩ : ∃ b, decide (v ≠ 0) = b := ⟨_, rfl⟩
 obtain ⟨s, hs⟩ : ∃ s, (K 1).length + (K 2).length = s := ⟨_, rfl⟩
 have hs2 : s ≤ 140000 := by
  have h1 := len_tot (K := K) (k := 3) (i := 1) (by omega)
  have h2 := len_tot (K := K) (k := 3) (i := 2) (by omega)
  omega
 have HO := Lib.hid ho0
 have HVV := Lib.hid (And.intro hv hb)
 have HSS := Lib.hid hs
 rw [hv] at hv0 hof ⊢
 rw [ho0] at hof ⊢
 have q1 : (u.ma : Int) ≤ (s : Int) := by omega
 have hbt : b = true := by rw [← hb]; simpa using hv0
 subst hbt
 have hv3 : v < 3 := by rw [← hv]; unfold vict; split; omega; split <;> omega
 obtain ⟨ov, hov⟩ : ∃ o, oldest K v = o := ⟨_, rfl⟩
 have hszv := oldest_sz H.nd v
 rw [hov] at hszv
 have HOV := Lib.hid hov
 have hof0 : oft k d o0 ≤ 16 := oft_le hk hd o0
 have hof1 : oft k d ov ≤ 16 := oft_le hk hd ov
 obtain ⟨n0, hn0⟩ : ∃ n, oft k d o0 = n := ⟨_, rfl⟩
 obtain ⟨n1, hn1⟩ : ∃ n, oft k d ov = n := ⟨_, rfl⟩
 have HN := Lib.hid (And.intro hn0 hn1)
 have HK := Lib.hid (And.intro hk hd)
 rw [hov] at hof ⊢
 rw [hn0, hn1] at hof
 have q2 : decide ((n0 : Int) ≤ (n1 : Int)) = false := decide_eq_false (by omega)
 have q2b : decide (n0 ≤ n1) = false := decide_eq_false (by omega)
 rw [← hn0, ← hn1] at q2 q2b
 have htd := tot_drop 3 K ov
 clear hv hb ho0 hs hc hv0 hof hov hn0 hn1 hk hd
 obtain ⟨k0, k1, _, _, k4, _, _, _⟩ := H.cells
 go_enter Tryz.func406, Tryz.ntmps406
 go_wp2_with fail
 refine (H.oldest (r := 0) (by decide) HO.out).mono ?_
 rintro en w1 ⟨rfl, f1⟩
 have HH := Lib.hid (H.fr0 f1)
 have HF := Lib.hid f1
 clear H k0 k1 k4 f1
 go_wp2_with fail
 refine (uvictim HH.out (by omega) HVV.out.1 HVV.out.2).mono ?_
 rintro en w2 ⟨rfl, f2⟩
 have HH2 := Lib.hid (HH.out.fr0 f2)
 have HF2 := Lib.hid (HF.out.same f2)
 obtain ⟨k0, k1, _, _, k4, _, _, _⟩ := HH2.out.cells
 clear f2 HH HF
 go_wp2_with fail
 first
  | (go_region_held3 (fun w' => w'.cell? ⟨u.e, 0, none⟩ = some (.slice (some ⟨u.g, 0, none⟩) 3 u.cap) ∧ w'.cell? ⟨u.e, 1, none⟩ = some (.pointer (some ⟨u.x, 0, none⟩)) ∧ w'.cell? ⟨u.e, 4, none⟩ = some (.int .i64 (u.ma : Nat)))
    (first
     | (have _h := f3; exact ⟨cell_fr (((Fr.refl [] _).drew).same f3) k0 (by simp), cell_fr (((Fr.refl [] _).drew).same f3) k1 (by simp), cell_fr (((Fr.refl [] _).drew).same f3) k4 (by simp)⟩)
     | exact ⟨k0, k1, k4⟩
     | exact ⟨cell_fr (((Fr.refl [] _).drew).alloc _) k0 (by simp), cell_fr (((Fr.refl [] _).drew).alloc _) k1 (by simp), cell_fr (((Fr.refl [] _).drew).alloc _) k4 (by simp)⟩)
    (first
     | (go_at_call 404; refine ((HH2.out.fr0 ((Fr.refl [] _).drew)).many2 1 2 (by decide) (by decide) HSS.out).mono ?_; rintro en w3 ⟨rfl, f3⟩)))
  | fail
 have HH3 := Lib.hid ((HH2.out.fr0 ((Fr.refl [] _).drew)).fr0 f3)
 have HF3 := Lib.hid ((HF2.out.drew).same f3)
 obtain ⟨k0, k1, _, _, k4, _, _, _⟩ := HH3.out.cells
 clear f3 HH2 HF2
 have HOFT := Lib.hid fun (W : World) (f : Fr [] w3 W) (key : ByteArray) (hz : key.size ≤ maxLen) => calls_base ((HH3.out.fr0 f).often HK.out.1 HK.out.2 key hz) f
 have HOLD := Lib.hid fun (W : World) (f : Fr [] w3 W) => calls_base ((HH3.out.fr0 f).oldest (r := v) hv3 HOV.out) f
 go_wp2_with fail
 first
  | (go_region_held3 (fun w' => w'.cell? ⟨u.e, 0, none⟩ = some (.slice (some ⟨u.g, 0, none⟩) 3 u.cap) ∧ w'.cell? ⟨u.e, 1, none⟩ = some (.pointer (some ⟨u.x, 0, none⟩)) ∧ w'.cell? ⟨u.e, 4, none⟩ = some (.int .i64 (u.ma : Nat)))
    (first
     | exact ⟨k0, k1, k4⟩
     | exact ⟨cell_fr (by first | assumption | exact (Fr.refl [] _).drew | exact Fr.alloc (by assumption) _ | exact ((Fr.refl [] _).drew).alloc _) k0 (by simp), cell_fr (by first | assumption | exact (Fr.refl [] _).drew | exact Fr.alloc (by assumption) _ | exact ((Fr.refl [] _).drew).alloc _) k1 (by simp), cell_fr (by first | assumption | exact (Fr.refl [] _).drew | exact Fr.alloc (by assumption) _ | exact ((Fr.refl [] _).drew).alloc _) k4 (by simp)⟩)
    (first
     | (go_at_call 405; refine (HOLD.out _ (by first | assumption | exact (Fr.refl [] _).drew | exact Fr.alloc (by assumption) _ | exact ((Fr.refl [] _).drew).alloc _)).mono ?_; rintro en w5 ⟨rfl, f5⟩)
     | (go_at_call 417; refine (HOFT.out _ (by first | assumption | exact (Fr.refl [] _).drew | exact Fr.alloc (by assumption) _ | exact ((Fr.refl [] _).drew).alloc _) _ (by assumption)).mono ?_; rintro en w6 ⟨rfl, f6⟩)))
  | fail
 have HH5 := Lib.hid (HH3.out.fr0 (by first | assumption | exact (Fr.refl [] _).drew | exact Fr.alloc (by assumption) _ | exact ((Fr.refl [] _).drew).alloc _))
 have HF5 := Lib.hid (HF3.out.same (by first | assumption | exact (Fr.refl [] _).drew | exact Fr.alloc (by assumption) _ | exact ((Fr.refl [] _).drew).alloc _))
 obtain ⟨k0, k1, _, _, k4, _, _, _⟩ := HH5.out.cells
 clear HH3 HF3 HOFT HOLD
 go_wp2_with fail
 refine (HH5.out.oldest (r := v) hv3 HOV.out).mono ?_
 rintro en w7 ⟨rfl, f7⟩
 have HH7 := Lib.hid (HH5.out.fr0 f7)
 have HF7 := Lib.hid (HF5.out.same f7)
 obtain ⟨k0, k1, _, _, k4, _, _, _⟩ := HH7.out.cells
 clear HH5 HF5 f7
 go_wp2_with fail
 refine (HH7.out.drop (by omega) ov hszv).mono ?_
 rintro en w8 ⟨rfl, F8, h8, s8, g8⟩
 have HH8 := Lib.hid h8
 have HF8 := Lib.hid (And.intro (s8.old HF7.out.size) (HF7.out.nil.same g8))
 obtain ⟨k0, k1, _, _, k4, _, _, _⟩ := HH8.out.cells
 clear HH7 h8 s8 g8
 go_wp2_with fail
 refine (HH8.out.push (by omega) (r := 1) (by decide) o0 hsz).mono ?_
 rintro en w9 ⟨rfl, hg⟩
 have HG := Lib.hid (UGo.trans HF8.out.1 HF8.out.2 hg)
 clear hg k0 k1 k4
 go_wp2
 go_ret
 exact UGRet.one HG.out _ rfl
end
end Go.Proofs.YtphlancijlljcaaGreat
