/- Texts of a proof about the given program, those parts that this claim reaches. -/
import Derived.Test.YtfeicmpbfbhiiaaGreatPEg33
import Derived.Test.YtfeicmpbfbhiiaaGreatPEg32
import Derived.Test.YtfeicmpbfbhiiaaGreatPEg29
import Derived.Test.YtfeicmpbfbhiiaaGreatPEg15
import Derived.Test.YtfeicmpbfbhiiaaGreatProg
import Derived.Test.YtfeicmpbfbhiiaaGreatPEg00
set_option linter.unusedVariables false
set_option linter.unusedSimpArgs false
namespace Go.Proofs.YtfeicmpbfbhiiaaGreat
open Go.RowKit
attribute [local go_sem ↓] Go.wp_at_zero Go.wp_at_succ
theorem RV.freshX (n : Nat) (T : TypeId) (w : World) (Fx : List Nat) (X : Nat → RowD) (rest : List Value) (hF : Lt Fx w) (hX : ∀ i, i < n → (X i).n = 0 ∧ (X i).xs = []) (hr : ∀ u, u ∈ rest → u.ownBlock = none) (cs : Array Value) (hcs : cs = ((List.range n).map (fun _ => Value.slice none 0 0) ++ rest).toArray) :
  RV n T (w.alloc (.cells cs T)) w.heap.size (w.heap.size :: Fx) Fx (fun _ => .slice none 0 0) X rest := by
 subst hcs
 have hown : ∀ (i : Nat) (v : Value), ((List.range n).map (fun _ => Value.slice none 0 0) ++ rest)[i]? = some v → v.ownBlock = none := fun i v h => by
  have hm := List.mem_iff_getElem?.2 ⟨i, h⟩
  rcases List.mem_append.1 hm with q | q
  ·obtain ⟨_, _, rfl⟩ := List.mem_map.1 q; rfl
  ·exact hr v q
 refine ⟨⟨?_, block_alloc_new _ _, fun b hb => ?_, fun hx => Nat.lt_irrefl _ (hF _ hx), fun i v h q => (by rw [hown i v h] at q; cases q), fun i v b h q => (by rw [hown i v h] at q; cases q), fun i j v u b h _ q => (by rw [hown i v h] at q; cases q)⟩, fun i hi => ?_, hr⟩
 ·have : ((List.range n).map (fun _ => Value.slice none 0 0) ++ rest).flatMap (fun v => v.ownBlock.toList) = [] := by
   rw [List.flatMap_eq_nil_iff]
   intro v hv
   obtain ⟨i, hi⟩ := List.mem_iff_getElem?.1 hv
   rw [hown i v hi]; rfl
  rw [this]; rfl
 ·rw [World.size_alloc]
  rcases List.mem_cons.1 hb with rfl | hb
  ·omega
  ·have := hF b hb; omega
 ·obtain ⟨h1, h2⟩ := hX i hi
  show Sl _ _ _ _ _ _
  rw [h1, h2]
  exact Sl.nil _ _ _
theorem RE14.at {w w1 w2 : World} {p q : Nat} {Fk Fd : List Nat} (room v : Int) (hv : (roomN room : Int) = v) (hk : RK7 w1 p Fk (Sk.new (roomN room))) (gk : Ge w.heap.size Fk) (fk : Fr [] w w1) (hd : RD8 w2 q Fd (Dr.new (roomN room))) (gd : Ge w1.heap.size Fd) (fd : Fr [] w1 w2) :
  ∃ F, RE14 (w2.alloc (.cells #[.slice none 0 0, .slice none 0 0, .slice none 0 0, ptr p, ptr q, .int .i64 v] 167)) w2.heap.size F (Tiny.new room) ∧ Ge w.heap.size F ∧ Fr [] w (w2.alloc (.cells #[.slice none 0 0, .slice none 0 0, .slice none 0 0, ptr p, ptr q, .int .i64 v] 167)) := by
 subst hv
 have hk2 : RK7 w2 p Fk (Sk.new (roomN room)) := hk.fr fd (fun _ _ => by simp)
 have hl1 := hk2.lt
 have hl2 := hd.lt
 have hf : Lt (Fk ++ Fd) w2 := fun b hb => by
  rcases List.mem_append.1 hb with z | z
  ·exact hl1 b z
  ·exact hl2 b z
 have fa := (Fr.refl [] w2).alloc (.cells #[.slice none 0 0, .slice none 0 0, .slice none 0 0, ptr p, ptr q, .int .i64 (roomN room : Nat)] 167)
 refine ⟨_, ⟨Tiny.Inv.new room, _, p, q, Fk, Fd, RV.freshX 3 _ w2 (Fk ++ Fd) _ _ hf (fun i hi => ⟨rfl, rfl⟩) (by simp [Value.ownBlock]) _ rfl, hk2.fr fa (fun _ _ => by simp), hd.fr fa (fun _ _ => by simp), fun b hb hh => ?_⟩, fun b hb => ?_, (fk.same fd).alloc _⟩
 ·have := gd b hh
  have := hk.lt b hb
  omega
 ·have := fk.size
  have := fd.size
  rcases List.mem_cons.1 hb with rfl | hb
  ·omega
  ·rcases List.mem_append.1 hb with z | z
   ·exact gk b z
   ·have := gd b z; omega
set_option maxRecDepth 100000 in
theorem r14new (w : World) (room : Int) : Calls Tryz.prog 100 #[.int .i64 room] w (NewRet RE14 w (Tiny.new room)) := by
 have hbd := roomN_bd room
 have HK := Lib.hid fun W => r7new W (roomN room) hbd.1 hbd.2
 have HD := Lib.hid fun W => r8new W (roomN room) hbd.1 hbd.2
 have H := Lib.hid fun (w1 w2 : World) (p q : Nat) (Fk Fd : List Nat) v hv hk gk fk hd gd fd => RE14.at (w := w) (w1 := w1) (w2 := w2) (p := p) (q := q) (Fk := Fk) (Fd := Fd) room v hv hk gk fk hd gd fd
 have hr : (roomN room : Int) = 1024 ∧ 1024 < room ∨ (roomN room : Int) = 1 ∧ room < 1 ∨ (roomN room : Int) = room ∧ 1 ≤ room ∧ room ≤ 1024 := by unfold roomN; omega
 rcases hr with ⟨h1, h2⟩ | ⟨h1, h2⟩ | ⟨h1, h2, h3⟩
 all_goals
  have HC := Lib.hid h1
  try have h4 : 1 < room := by omega
  rw [h1] at HK HD
  clear h1 hbd
  go_enter Tryz.func100, Tryz.ntmps100
  go_wp2_with fail
  refine (HK.out _).mono ?_
  rintro en w1 ⟨p, Fk, rfl, hk, gk, fk⟩
  have HKK := Lib.hid (And.intro hk (And.intro gk fk))
  clear hk gk fk
  go_wp2_with fail
  refine (HD.out _).mono ?_
  rintro en w2 ⟨q, Fd, rfl, hd, gd, fd⟩
  have HDD := Lib.hid (And.intro hd (And.intro gd fd))
  clear hd gd fd
  go_wp2
  go_ret
  obtain ⟨F, a, b, d⟩ := H.out w1 w2 p q Fk Fd _ HC.out HKK.out.1 HKK.out.2.1 HKK.out.2.2 HDD.out.1 HDD.out.2.1 HDD.out.2.2
  exact ⟨_, F, rfl, a, b, d⟩
end Go.Proofs.YtfeicmpbfbhiiaaGreat
set_option linter.unusedVariables false
set_option linter.unusedSimpArgs false
namespace Go.Proofs.YtfeicmpbfbhiiaaGreat
open Go.RowKit
open Act renaming put → pE0
open List renaming getElem_toArray → pE1, getElem_cons_succ → pE2, getElem_cons_zero → pE3, setIfInBounds_toArray → pE4, set_cons_zero → pE5, set_cons_succ → pE6
attribute [local go_sem ↓] Go.wp_at_zero Go.wp_at_succ
def KS3 (w : World) (lI lJ lK : List ByteArray) (d0 d5 d10 d15 : Bool) (x0 x5 x10 x15 : Value) (wz : World) : Prop :=
 Fr [] w wz ∧ (d5 = false → d0 = true → Gone w wz x0 []) ∧ (d10 = false → d5 = true → Gone w wz x5 lI) ∧ (d15 = false → d10 = true → Gone w wz x10 (lI ++ lJ)) ∧ (d15 = true → Gone w wz x15 (lI ++ lJ ++ lK))
section
variable {w wz w2 : World} {lI lJ lK : List ByteArray} {d0 d5 d10 d15 : Bool} {x0 x5 x10 x15 v : Value}
theorem KS3.start (f : Fr [] w wz) (x0 x5 x10 x15 : Value) : KS3 w lI lJ lK false false false false x0 x5 x10 x15 wz := ⟨f, fun _ h => by (cases h), fun _ h => by (cases h), fun _ h => by (cases h), fun h => by (cases h)⟩
theorem KS3.zero (h : KS3 w lI lJ lK false false false false x0 x5 x10 x15 wz) : KS3 w lI lJ lK true false false false (.slice (some ⟨wz.heap.size, 0, none⟩) 0 0) x5 x10 x15 (wz.alloc (.cells #[] 9)) := by
 have f := h.1
 exact ⟨f.alloc _, fun _ _ => ⟨SS.empty wz, by intro b hb; simp [Value.ownBlock] at hb; have := f.size; omega⟩, fun _ h => by (cases h), fun _ h => by (cases h), fun h => by (cases h)⟩
theorem KS3.one (h : KS3 w lI lJ lK true false false false x0 x5 x10 x15 wz) (a : AppS wz x0 ([] ++ lI) v w2) : KS3 w lI lJ lK true true false false x0 v x10 x15 w2 := by
 obtain ⟨g, f⟩ := a.new h.1 (h.2.1 rfl rfl).2
 exact ⟨f, fun h => by (cases h), fun _ _ => g, fun _ h => by (cases h), fun h => by (cases h)⟩
theorem KS3.two (h : KS3 w lI lJ lK true true false false x0 x5 x10 x15 wz) (a : AppS wz x5 (lI ++ lJ) v w2) : KS3 w lI lJ lK true true true false x0 x5 v x15 w2 := by
 obtain ⟨g, f⟩ := a.new h.1 (h.2.2.1 rfl rfl).2
 exact ⟨f, fun h => by (cases h), fun h => by (cases h), fun _ _ => g, fun h => by (cases h)⟩
theorem KS3.three (h : KS3 w lI lJ lK true true true false x0 x5 x10 x15 wz) (a : AppS wz x10 (lI ++ lJ ++ lK) v w2) : KS3 w lI lJ lK true true true true x0 x5 x10 v w2 := by
 obtain ⟨g, f⟩ := a.new h.1 (h.2.2.2.1 rfl rfl).2
 exact ⟨f, fun h => by (cases h), fun h => by (cases h), fun h => by (cases h), fun _ => g⟩
end
set_option maxHeartbeats 1000000 in
set_option maxRecDepth 100000 in
theorem r14keysK {w : World} {e c : Nat} {F : List Nat} {K : Rows} {k : Sk} {d : Dr} (h : R14 w e F K k d c) (hb : ∀ i, (K i).length ≤ 4000) : Calls Tryz.prog 132 #[ptr e] w (KeysRet w (K 0 ++ K 1 ++ K 2)) := by
 obtain ⟨V, p, q, Fk, Fd, h, _⟩ := h
 obtain ⟨a0, n0, c0, a1, n1, c1, a2, n2, c2, a3, n3, c3, hn0, hn1, hn2, hn3, h⟩ := h.lit (by decide)
 have k0 := h.k (i := 0) (by decide)
 have k1 := h.k (i := 1) (by decide)
 have k2 := h.k (i := 2) (by decide)
 have H0 : Hid (SS w (.slice a0 n0 c0) (K 0)) := h.s 0 (by decide)
 have H1 : Hid (SS w (.slice a1 n1 c1) (K 1)) := h.s 1 (by decide)
 have H2 : Hid (SS w (.slice a2 n2 c2) (K 2)) := h.s 2 (by decide)
 have HB : Hid ((K 0).length ≤ 4000 ∧ (K 1).length ≤ 4000 ∧ (K 2).length ≤ 4000) := ⟨hb 0, hb 1, hb 2⟩
 simp only [V4] at k0 k1 k2
 generalize K 0 = l0 at *
 generalize K 1 = l1 at *
 generalize K 2 = l2 at *
 clear h hb hn0 hn1 hn2 hn3
 go_enter Tryz.func132, Tryz.ntmps132
 go_wp2_with fail
 refine wp_region_invX (fun j v _ => match j with | 1 | 2 | 6 | 7 | 11 | 12 => v = ptr e | 3 => v = .pointer (some ⟨e, 0, none⟩) | 8 => v = .pointer (some ⟨e, 1, none⟩) | 13 => v = .pointer (some ⟨e, 2, none⟩) | 4 => v = .slice a0 n0 c0 | 9 => v = .slice a1 n1 c1 | 14 => v = .slice a2 n2 c2 | _ => True)
  (fun D X wz => Hid (KS3 w l0 l1 l2 (D 0) (D 5) (D 10) (D 15) (X 0) (X 5) (X 10) (X 15) wz) ∧ (D 16 = true → X 16 = X 15)) (fun _ _ => True) (by kernel_rfl) (by kernel_rfl) (by kernel_rfl) (fun _ _ _ _ h _ => h) ?hS ?hops ?hfin
 case hS => exact fun X => ⟨KS3.start ((Fr.refl [] _).drew) _ _ _ _, fun h => by (cases h)⟩
 case hops =>
  repeat' (first | exact OpsOkX.nil | refine OpsOkX.cons ?_ ?_)
  all_goals try exact rgTX
  ·skip
   intro D X w' K hD hcl hS hA hI hK
   have d5 := hcl.not hD 5 (by kernel_rfl)
   have d10 := hcl.not d5 10 (by kernel_rfl)
   have d15 := hcl.not d10 15 (by kernel_rfl)
   have d16 := hcl.not d15 16 (by kernel_rfl)
   have t0 := hS.1.out
   have hD : D 0 = false := hD
   rw [hD, d5, d10, d15] at t0
   have t1 := Lib.hid (KS3.zero t0)
   clear t0
   simp only [putL, pE0, pE1, pE4, pE5, pE6, Nat.reduceAdd, up, Nat.reduceEqDiff, if_true, if_false, reduceIte] at hK ⊢
   go_simp
   refine hK.out _ _ trivial ⟨?_, fun h => absurd (show D 16 = true from h) (by rw [d16]; decide)⟩ trivial
   show KS3 _ _ _ _ true (D 5) (D 10) (D 15) _ _ _ _ _
   rw [d5, d10, d15]
   exact t1.out
  ·skip
   intro D X w' K hD hcl hS hA hI hK
   have kk := cell_fr hS.1.out.1 k0 (by simp)
   simp only [afterI, Region.binds, forall_const] at hI
   simp only [putL, pE0, pE1, pE4, pE5, pE6, Nat.reduceAdd, up, Nat.reduceEqDiff, if_true, if_false, reduceIte] at hK ⊢
   try simp only [hI] at hK
   go_simp
   exact hK.out _ _ rfl hS trivial
  ·skip
   intro D X w' K hD hcl hS hA hI hK
   have hD : D 5 = false := hD
   have d0 : D 0 = true := hA { on := 0, ground := .data } (by simp) rfl
   have d10 := hcl.not hD 10 (by kernel_rfl)
   have d15 := hcl.not d10 15 (by kernel_rfl)
   have d16 := hcl.not hD 16 (by kernel_rfl)
   have t0 := hS.1.out
   rw [hD, d0, d10, d15] at t0
   have xL : X 4 = .slice a0 n0 c0 := by simp only [afterI, Region.binds, forall_const] at hI; exact hI.2.1
   simp only [putL, pE0, pE1, pE4, pE5, pE6, Nat.reduceAdd, up, Nat.reduceEqDiff, if_true, if_false, reduceIte] at hK ⊢
   refine app_stepY (.tmp 3) (.tmp 7) (X 0) (X 4) [] l0 (t0.2.1 rfl rfl).1 (by rw [xL]; exact SS.src (SS.fr0 H0.out t0.1)) (by have := HB.out; (try simp only [List.length_append, List.length_nil]); omega) ?h0 ?h1 ?h2 ?h3 ?h4 ?h6
   case h0 => rfl
   case h1 => rfl
   case h2 => rfl
   case h3 => rfl
   case h4 => rfl
   intro b n c w2 hn happ
   refine hK.out (.slice b n c) w2 trivial ⟨?_, fun h => absurd (show D 16 = true from h) (by rw [d16]; decide)⟩ trivial
   show KS3 _ _ _ _ (D 0) true (D 10) (D 15) _ _ _ _ _
   rw [d0, d10, d15]
   exact KS3.one t0 happ
  ·skip
   intro D X w' K hD hcl hS hA hI hK
   have kk := cell_fr hS.1.out.1 k1 (by simp)
   simp only [afterI, Region.binds, forall_const] at hI
   simp only [putL, pE0, pE1, pE4, pE5, pE6, Nat.reduceAdd, up, Nat.reduceEqDiff, if_true, if_false, reduceIte] at hK ⊢
   try simp only [hI] at hK
   go_simp
   exact hK.out _ _ rfl hS trivial
  ·skip
   intro D X w' K hD hcl hS hA hI hK
   have hD : D 10 = false := hD
   have d5 : D 5 = true := hA { on := 5, ground := .data } (by simp) rfl
   have d0 : D 0 = true := hcl 5 _ rfl d5 { on := 0, ground := .data } (by simp) rfl
   have d15 := hcl.not hD 15 (by kernel_rfl)
   have d16 := hcl.not hD 16 (by kernel_rfl)
   have t0 := hS.1.out
   rw [hD, d0, d5, d15] at t0
   have xL : X 9 = .slice a1 n1 c1 := by simp only [afterI, Region.binds, forall_const] at hI; exact hI.2.1
   simp only [putL, pE0, pE1, pE4, pE5, pE6, Nat.reduceAdd, up, Nat.reduceEqDiff, if_true, if_false, reduceIte] at hK ⊢
   refine app_stepY (.tmp 8) (.tmp 12) (X 5) (X 9) l0 l1 (t0.2.2.1 rfl rfl).1 (by rw [xL]; exact SS.src (SS.fr0 H1.out t0.1)) (by have := HB.out; (try simp only [List.length_append, List.length_nil]); omega) ?g0 ?g1 ?g2 ?g3 ?g4 ?g6
   case g0 => rfl
   case g1 => rfl
   case g2 => rfl
   case g3 => rfl
   case g4 => rfl
   intro b n c w2 hn happ
   refine hK.out (.slice b n c) w2 trivial ⟨?_, fun h => absurd (show D 16 = true from h) (by rw [d16]; decide)⟩ trivial
   show KS3 _ _ _ _ (D 0) (D 5) true (D 15) _ _ _ _ _
   rw [d0, d5, d15]
   exact KS3.two t0 happ
  ·skip
   intro D X w' K hD hcl hS hA hI hK
   have kk := cell_fr hS.1.out.1 k2 (by simp)
   simp only [afterI, Region.binds, forall_const] at hI
   simp only [putL, pE0, pE1, pE4, pE5, pE6, Nat.reduceAdd, up, Nat.reduceEqDiff, if_true, if_false, reduceIte] at hK ⊢
   try simp only [hI] at hK
   go_simp
   exact hK.out _ _ rfl hS trivial
  ·skip
   intro D X w' K hD hcl hS hA hI hK
   have hD : D 15 = false := hD
   have d10 : D 10 = true := hA { on := 10, ground := .data } (by simp) rfl
   have d5 : D 5 = true := hcl 10 _ rfl d10 { on := 5, ground := .data } (by simp) rfl
   have d0 : D 0 = true := hcl 5 _ rfl d5 { on := 0, ground := .data } (by simp) rfl
   have d16 := hcl.not hD 16 (by kernel_rfl)
   have t0 := hS.1.out
   rw [hD, d0, d5, d10] at t0
   have xL : X 14 = .slice a2 n2 c2 := by simp only [afterI, Region.binds, forall_const] at hI; exact hI.2.1
   simp only [putL, pE0, pE1, pE4, pE5, pE6, Nat.reduceAdd, up, Nat.reduceEqDiff, if_true, if_false, reduceIte] at hK ⊢
   refine app_stepY (.tmp 13) (.tmp 17) (X 10) (X 14) (l0 ++ l1) l2 (t0.2.2.2.1 rfl rfl).1 (by rw [xL]; exact SS.src (SS.fr0 H2.out t0.1)) (by have := HB.out; (try simp only [List.length_append, List.length_nil]); omega) ?f0 ?f1 ?f2 ?f3 ?f4 ?f6
   case f0 => rfl
   case f1 => rfl
   case f2 => rfl
   case f3 => rfl
   case f4 => rfl
   intro b n c w2 hn happ
   refine hK.out (.slice b n c) w2 trivial ⟨?_, fun h => absurd (show D 16 = true from h) (by rw [d16]; decide)⟩ trivial
   show KS3 _ _ _ _ (D 0) (D 5) (D 10) true _ _ _ _ _
   rw [d0, d5, d10]
   exact KS3.three t0 happ
  ·skip
   intro D X w' K hD hcl hS hA hI hK
   simp only [putL, pE0, pE1, pE4, pE5, pE6, Nat.reduceAdd, up, Nat.reduceEqDiff, if_true, if_false, reduceIte] at hK ⊢
   go_simp
   exact hK.out _ _ trivial ⟨hS.1, fun _ => rfl⟩ trivial
 case hfin =>
  intro D X wa hS hD hI
  simp only [putL, pE0, pE1, pE4, pE5, pE6, Nat.reduceAdd]
  have h16 := hS.2 (hD 16 (by decide))
  have h15 := hS.1.out
  rw [hD 15 (by decide)] at h15
  have g := h15.2.2.2.2 rfl
  have HF := Lib.hid (And.intro g h15.1)
  rw [h16]
  obtain ⟨a, c, hv⟩ := g.1.form
  obtain ⟨N, hN⟩ : ∃ N, (l0 ++ l1 ++ l2).length = N := ⟨_, rfl⟩
  rw [hN] at hv
  rw [hv] at HF ⊢
  clear hD hI hS h15 g h16 hN
  go_wp2
  go_ret
  exact ⟨_, rfl, HF.out.1, HF.out.2⟩
end Go.Proofs.YtfeicmpbfbhiiaaGreat
set_option linter.unusedVariables false
set_option linter.unusedSimpArgs false
namespace Go.Proofs.YtfeicmpbfbhiiaaGreat
open Go.RowKit
namespace En
def Inv : En → Prop | A s => s.Inv | L s => s.Inv | Q s => s.Inv | U s => s.Inv | S s => s.Inv
theorem keys_len (s : En) : s.keys.length = s.len := by
 cases s with
 | A s => simp [keys, len, Arc.len]
 | L s => simp [keys, len, Lirs.len, Lirs.keys, thoseS, cntS, List.countP_eq_length_filter]
 | Q s => simp [keys, len, Twoq.len]
 | U s => simp [keys, len, Tiny.len]; omega
 | S s => simp [keys, len, S3.len]
end En
end Go.Proofs.YtfeicmpbfbhiiaaGreat
set_option linter.unusedVariables false
set_option linter.unusedSimpArgs false
namespace Go.Proofs.YtfeicmpbfbhiiaaGreat
section
variable {P : Program} {Q : Exit → Act → World → Prop} {ops : Array Oper}
theorem wp_region_invY {id : Nat} {a : Act} {w : World} (I : Nat → Value → World → Prop) (S : (Nat → Bool) → (Nat → Value) → World → Prop) (T : World → World → Prop)
  (hm : P.follows .mixedOrders = true) (hord : inOrder .any ops = true) (hap : apartL ops.toList = true) (hst : ∀ j v w w', I j v w → T w w' → I j v w') (hS : ∀ X, a = putL X 0 ops.toList a → S (fun _ => false) X w.drew)
  (hops : OpsOkX P Q .any ops (fun X => putL X 0 ops.toList a) I S T 0 ops.toList)
  (hfin : ∀ D X w', S D X w' → (∀ j, j < ops.size → D j = true) → (∀ j, j < ops.size → I j (X j) w') → Q .normal (putL X 0 ops.toList a) w') : (Code.region id ops true).wp P Q a w := by
 obtain ⟨X0, h0⟩ := putL_self a ops.toList 0
 have hs0 := hS X0 h0
 have key : ∀ b, b = putL X0 0 ops.toList a → wpAny P .any ops Q ops.size (Array.replicate ops.size false) b w.drew := by
  intro b hb
  subst hb
  refine wpAny_invX (mk := fun X => putL X 0 ops.toList a) hord (fun i o ho => by have := putsOk.get (putsOk_putL (a := a) (n := 0) hap) (j := i) (o := o) (by rw [Array.getElem?_toList]; exact ho); rw [Nat.zero_add] at this; exact this) hst hops hfin _ _ X0 _ (fun _ => false) (fun _ _ _ h => by cases h) ?_ (by simp) hs0 ?_ ?_
  ·unfold unl
   refine Nat.le_trans List.countP_le_length ?_
   simp
  ·intro j hj; simp [hj]
  ·intro j hj h; simp [hj] at h
 exact wp_region_any hm (key a h0)
end
end Go.Proofs.YtfeicmpbfbhiiaaGreat
set_option linter.unusedVariables false
set_option linter.unusedSimpArgs false
namespace Go.Proofs.YtfeicmpbfbhiiaaGreat
open Go.RowKit
def ename (k : Int) : ByteArray :=
 if k = 0 then ⟨#[97, 114, 99]⟩ else if k = 1 then ⟨#[108, 105, 114, 115]⟩ else if k = 2 then ⟨#[50, 113]⟩ else if k = 3 then ⟨#[116, 105, 110, 121, 108, 102, 117]⟩ else if k = 4 then ⟨#[115, 51, 102, 105, 102, 111]⟩ else ⟨#[]⟩
def kindB (s : ByteArray) : Bool := decide (∃ k : Nat, k < 5 ∧ ename k = s)
def kindV (s : ByteArray) : Int := if s = ename 0 then 0 else if s = ename 1 then 1 else if s = ename 2 then 2 else if s = ename 3 then 3 else if s = ename 4 then 4 else 0
theorem kname_at (k : Nat) (hk : k < 5) (s : ByteArray) (h : ename k = s) : kindB s = true ∧ kindV s = k := by
 refine ⟨decide_eq_true ⟨k, hk, h⟩, ?_⟩
 subst h
 obtain rfl | rfl | rfl | rfl | rfl : k = 0 ∨ k = 1 ∨ k = 2 ∨ k = 3 ∨ k = 4 := by omega
 all_goals decide
theorem kind_none (s : ByteArray) (h : ∀ k : Nat, k < 5 → ename k ≠ s) : kindB s = false ∧ kindV s = 0 := by
 refine ⟨decide_eq_false (fun ⟨k, h1, h2⟩ => h k h1 h2), ?_⟩
 have a0 := h 0 (by omega)
 have a1 := h 1 (by omega)
 have a2 := h 2 (by omega)
 have a3 := h 3 (by omega)
 have a4 := h 4 (by omega)
 unfold kindV
 rw [if_neg (fun e => a0 e.symm), if_neg (fun e => a1 e.symm), if_neg (fun e => a2 e.symm), if_neg (fun e => a3 e.symm), if_neg (fun e => a4 e.symm)]
theorem nameE (k : Int) (w : World) : Calls Tryz.prog 72 #[.int .i64 k] w fun e w' => e = .returned (.string (ename k)) ∧ w = w' := by
 have fin : ∀ s, ename k = s → (Ending.returned (.string s) = Ending.returned (.string (ename k))) := fun s h => by rw [h]
 have FIN := Lib.hid fin
 clear fin
 by_cases h0 : k = 0
 ·have hs : ename k = ⟨#[97, 114, 99]⟩ := by rw [h0]; rfl
  have HS := Lib.hid hs
  clear hs
  subst h0
  go_enter Tryz.func72, Tryz.ntmps72
  go_wp2
  go_ret
  exact ⟨FIN.out _ HS.out, rfl⟩
 by_cases h1 : k = 1
 ·have hs : ename k = ⟨#[108, 105, 114, 115]⟩ := by rw [h1]; rfl
  have HS := Lib.hid hs
  clear hs
  subst h1
  go_enter Tryz.func72, Tryz.ntmps72
  go_wp2
  go_ret
  exact ⟨FIN.out _ HS.out, rfl⟩
 by_cases h2 : k = 2
 ·have hs : ename k = ⟨#[50, 113]⟩ := by rw [h2]; rfl
  have HS := Lib.hid hs
  clear hs
  subst h2
  go_enter Tryz.func72, Tryz.ntmps72
  go_wp2
  go_ret
  exact ⟨FIN.out _ HS.out, rfl⟩
 by_cases h3 : k = 3
 ·have hs : ename k = ⟨#[116, 105, 110, 121, 108, 102, 117]⟩ := by rw [h3]; rfl
  have HS := Lib.hid hs
  clear hs
  subst h3
  go_enter Tryz.func72, Tryz.ntmps72
  go_wp2
  go_ret
  exact ⟨FIN.out _ HS.out, rfl⟩
 by_cases h4 : k = 4
 ·have hs : ename k = ⟨#[115, 51, 102, 105, 102, 111]⟩ := by rw [h4]; rfl
  have HS := Lib.hid hs
  clear hs
  subst h4
  go_enter Tryz.func72, Tryz.ntmps72
  go_wp2
  go_ret
  exact ⟨FIN.out _ HS.out, rfl⟩
 have hs : ename k = ⟨#[]⟩ := by
  unfold ename
  rw [if_neg h0, if_neg h1, if_neg h2, if_neg h3, if_neg h4]
 have HS := Lib.hid hs
 have b0 : (k == 0) = false := by simpa using h0
 have b1 : (k == 1) = false := by simpa using h1
 have b2 : (k == 2) = false := by simpa using h2
 have b3 : (k == 3) = false := by simpa using h3
 have b4 : (k == 4) = false := by simpa using h4
 clear hs h0 h1 h2 h3 h4
 go_enter Tryz.func72, Tryz.ntmps72
 go_wp2
 go_ret
 exact ⟨FIN.out _ HS.out, rfl⟩
theorem kindE (s : ByteArray) (w : World) : Calls Tryz.prog 71 #[.string s] w fun e w' => e = .returned (.tuple #[.int .i64 (kindV s), .bool (kindB s)]) ∧ w = w' := by
 go_enter Tryz.func71, Tryz.ntmps71
 go_wp2
 go_loop [5] (fun i => ∃ k : Nat, k ≤ 5 ∧ i = .int .i64 k ∧ Hid (∀ j : Nat, j < k → ename j ≠ s)) (fun i => 5 - (intOf i).toNat)
 case atStart => exact ⟨0, by omega, rfl, fun j h => absurd h (by omega)⟩
 case round =>
  obtain ⟨k, hk, rfl, hn⟩ := hrel
  by_cases hlt : k < 5
  ·go_wp2_with (go_at_call 72; refine (nameE _ _).mono ?_; rintro e w' ⟨rfl, rfl⟩)
   ·rename_i hq
    have := kname_at k hlt s (str_eq hq)
    go_ret2
    rw [this.1, this.2]
    exact ⟨rfl, rfl⟩
   ·rename_i hq
    refine ⟨⟨k + 1, by omega, by go_num, fun j hj => ?_⟩, by simp [intOf]; omega⟩
    by_cases e : j = k
    ·subst e; exact str_ne hq
    ·exact hn.out j (by omega)
  ·have := kind_none s (fun j hj => hn.out j (by omega))
   go_wp2_with fail
   go_ret2
   exact ⟨rfl, rfl⟩
theorem known15 (w : World) : Calls Tryz.prog 19 #[] w fun e w' => e = .returned (.bool true) ∧ w = w' := by
 have e1 : kindB ⟨#[50, 113]⟩ = true := (kname_at 2 (by omega) _ rfl).1
 have e2 : kindV ⟨#[50, 113]⟩ = 2 := (kname_at 2 (by omega) _ rfl).2
 have e3 : ename 4 = ⟨#[115, 51, 102, 105, 102, 111]⟩ := rfl
 go_enter Tryz.func19, Tryz.ntmps19
 go_wp2_with fail
 refine (kindE _ _).mono ?_
 rintro e w' ⟨rfl, rfl⟩
 rw [e1, e2]
 go_wp2_with fail
 refine (nameE _ _).mono ?_
 rintro e w' ⟨rfl, rfl⟩
 rw [e3]
 go_wp2
 go_ret
 exact ⟨by simp, rfl⟩
end Go.Proofs.YtfeicmpbfbhiiaaGreat
