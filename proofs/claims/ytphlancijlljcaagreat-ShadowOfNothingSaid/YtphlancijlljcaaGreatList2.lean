/- The walks over package list, second part: take. -/
import Derived.Test.YtphlancijlljcaaGreatList
set_option linter.unusedVariables false
set_option linter.unusedSimpArgs false
namespace Go.Proofs.YtphlancijlljcaaGreat
open Go.RowKit
attribute [local go_sem ↓] Go.wp_at_zero Go.wp_at_succ
theorem infoInt : (Tryz.prog.info? 3).map (fun i => (i.zero, i.size, i.bytes)) = some (some (.int .i64 0), 1, 8) := by kernel_rfl
theorem infoStr : (Tryz.prog.info? 9).map (fun i => (i.zero, i.size, i.bytes)) = some (some (.string ⟨#[]⟩), 1, 16) := by kernel_rfl
theorem infoLk : (Tryz.prog.info? 237).map (fun i => (i.zero, i.size, i.bytes)) = some (some (.agg #[.string ⟨#[]⟩, .int .i64 0, .int .i64 0, .bool false]), 4, 40) := by kernel_rfl
theorem info_parts2 {P : Program} {t : TypeId} {z : Value} {s b : Nat} (h : (P.info? t).map (fun i => (i.zero, i.size, i.bytes)) = some (some z, s, b)) : ∃ i, P.info? t = some i ∧ i.zero = some z ∧ i.size = s ∧ i.bytes = b := by
  cases hi : P.info? t with
  | none => rw [hi] at h; cases h
  | some i => rw [hi] at h; simp at h; exact ⟨i, rfl, h⟩

section
variable {w : World} {p g off c m n : Nat} {f : Nat → Lk} {vf : Value} {fr : List Nat}
theorem LRaw.setAll (h : LRaw w p g off c m f vf fr n) (i : Nat) (hi : i < m) (x : Lk) : LRaw ((((w.setCell ⟨g, off + i * 4, none⟩ (.string x.v)).setCell ⟨g, off + i * 4 + 1, none⟩ (.int .i64 x.p)).setCell ⟨g, off + i * 4 + 2, none⟩ (.int .i64 x.n)).setCell ⟨g, off + i * 4 + 3, none⟩ (.bool x.t)) p g off c m (up f i x) vf fr n := by
  have h0 := h.store i 0 hi (by omega) (.string x.v) { f i with v := x.v } rfl
  have h1 := h0.store i 1 hi (by omega) (.int .i64 x.p) { f i with v := x.v, p := x.p } (by rw [up_same]; rfl)
  have h2 := h1.store i 2 hi (by omega) (.int .i64 x.n) { f i with v := x.v, p := x.p, n := x.n } (by rw [up_same]; rfl)
  have h3 := h2.store i 3 hi (by omega) (.bool x.t) x (by rw [up_same]; rfl)
  refine h3.congr fun k _ => ?_
  simp only [up]; split <;> rfl
theorem LRaw.setFree (h : LRaw w p g off c m f vf fr n) {vf' : Value} {fr' : List Nat} (hv : ∀ b, vf'.ownBlock = some b → b ≠ p ∧ b ≠ g) (hs : Sl w 3 1 vf' fr'.length (fr'.map fun i => Value.int .i64 (i : Nat))) :
    LRaw (w.setCell ⟨p, 1, none⟩ vf') p g off c m f vf' fr' n := by
  obtain ⟨h1, h2, h3, h4, h5⟩ := h
  have k := (Fr.refl [p] w).setCell (p := ⟨p, 1, none⟩) (by simp) vf'
  refine ⟨h1, hv, ?_, h4.fr k (fun b hb hp => by simp [Value.ownBlock] at hb hp; exact h1 (hb.symm.trans hp)), hs.fr k (fun b hb hp => by simp at hb hp; exact (hv b hb).1 hp)⟩
  rw [block_set_same h3]; simp
theorem LRaw.setLen (h : LRaw w p g off c m f vf fr n) (n' : Nat) : LRaw (w.setCell ⟨p, 2, none⟩ (.int .i64 n')) p g off c m f vf fr n' := by
  obtain ⟨h1, h2, h3, h4, h5⟩ := h
  have k := (Fr.refl [p] w).setCell (p := ⟨p, 2, none⟩) (by simp) (.int .i64 n')
  refine ⟨h1, h2, ?_, h4.fr k (fun b hb hp => by simp [Value.ownBlock] at hb hp; exact h1 (hb.symm.trans hp)), h5.fr k (fun b hb hp => by simp at hb hp; exact (h2 b hb).1 hp)⟩
  rw [block_set_same h3]; simp
/-- What take gives. -/
def Taken (w : World) (p g m n : Nat) (f : Nat → Lk) (vf : Value) (fr : List Nat) (v : ByteArray) (e : Ending) (w' : World) : Prop :=
  ∃ (h g' off' c' m' : Nat) (vf' : Value) (fr' : List Nat), e = .returned (.int .i64 h) ∧ LRaw w' p g' off' c' m' (up f h ⟨v, 0, 0, true⟩) vf' fr' (n + 1) ∧ ((fr = fr' ++ [h] ∧ m' = m) ∨ (fr = [] ∧ fr' = [] ∧ h = m ∧ m' = m + 1)) ∧
    (g' = g ∨ w.heap.size ≤ g') ∧ (vf'.ownBlock = vf.ownBlock) ∧ Fr [p, g] w w'
set_option maxRecDepth 100000 in
theorem take_free (H : LRaw w p g off c m f vf fr n) {fr' : List Nat} {h : Nat} (hfr : fr = fr' ++ [h]) (hh : h < m) (hm : m ≤ 100000) (hn : n ≤ 100000) (hfl : fr.length ≤ 100000) (v : ByteArray) :
    Calls Tryz.prog 197 #[.pointer (some ⟨p, 0, none⟩), .string v] w (Taken w p g m n f vf fr v) := by
  obtain ⟨i0, hi, hz0, hz1, hz2⟩ := info_parts2 infoInt
  obtain ⟨h0, h1, h2⟩ := H.head
  have z := H.frz
  have zp := H.frp
  have hgp := H.1
  obtain ⟨a1, a2, a3, a4⟩ := H.cell h hh
  have hsf := H.2.2.2.2
  have hlen : fr.length = fr'.length + 1 := by rw [hfr]; simp
  rw [hlen] at hsf
  obtain ⟨gf, of, cf, rfl, hgf⟩ := hsf.pos (by omega)
  have y0 : w.cell? ⟨gf, of + fr'.length, none⟩ = some (.int .i64 h) := hsf.cell (by rw [hfr]; simp)
  obtain ⟨k, hk⟩ : ∃ k, fr'.length = k := ⟨_, rfl⟩
  rw [hk] at y0 hlen hsf h1
  have hcf : k + 1 ≤ cf := by
    rcases hsf.2 with ⟨h1, _⟩ | ⟨g', off', cap, cur, h1, hgg, a1, _⟩
    · simp at h1
    · simp at h1; omega
  have hrun := fun w' => run_slice_upto (P := Tryz.prog) Tryz.underlying79 hi (some ⟨gf, of, none⟩) (k + 1) cf k (by omega) w'
  simp only [show ¬ cf = 0 by omega, if_false, Option.map_some, Nat.zero_mul, Nat.sub_zero] at hrun
  rw [show (⟨gf, of, none⟩ : Addr).add 0 = ⟨gf, of, none⟩ by simp [Addr.add]] at hrun
  have HH := Lib.hid H
  have HK := Lib.hid (And.intro hfr hk)
  have hgfp : gf ≠ p ∧ gf ≠ g := H.2.1 gf rfl
  have HF := Lib.hid hsf
  have hk2 : k + 1 ≤ 100000 := by omega
  have c0 : ((0 : Int) < (((k + 1 : Nat)) : Int)) := by omega
  clear H hsf hfr hk hlen
  go_enter Tryz.func197, Tryz.ntmps197
  go_wp2
  go_ret
  have hsl := (HF.out.slice (lo := 0) (hi := k) (by omega) (by omega))
  simp only [show ¬ cf = 0 by omega, if_false, Option.map_some, Nat.zero_mul, Nat.sub_zero, List.drop_zero, Nat.mul_one] at hsl
  rw [show (⟨gf, of, none⟩ : Addr).add 0 = ⟨gf, of, none⟩ by simp [Addr.add]] at hsl
  obtain ⟨hfr, hk⟩ := HK.out
  have e1 : (fr.map fun i => Value.int .i64 (i : Nat)).take k = fr'.map fun i => Value.int .i64 (i : Nat) := by
    rw [hfr, List.map_append, ← hk]; simp
  rw [e1] at hsl
  have q1 := HH.out.setFree (vf' := .slice (some ⟨gf, of, none⟩) k cf) (fr' := fr') (fun b hb => by simp [Value.ownBlock] at hb; subst hb; exact hgfp) (by rw [hk]; exact hsl)
  have q2 := (q1.setAll h hh ⟨v, 0, 0, true⟩).setLen (n + 1)
  refine ⟨h, g, off, c, m, _, fr', rfl, q2, .inl ⟨hfr, rfl⟩, .inl rfl, rfl, ?_⟩
  exact ((((((Fr.refl [p, g] w).setCell (by simp) _).setCell (by simp) _).setCell (by simp) _).setCell (by simp) _).setCell (by simp) _).setCell (by simp) _

set_option maxRecDepth 100000 in
theorem take_grow (H : LRaw w p g off c m f vf [] n) (hm : m ≤ 100000) (hn : n ≤ 100000) (v : ByteArray) :
    Calls Tryz.prog 197 #[.pointer (some ⟨p, 0, none⟩), .string v] w (Taken w p g m n f vf [] v) := by
  obtain ⟨i0, hi, hz0, hz1, hz2⟩ := info_parts2 infoLk
  obtain ⟨h0, h1, h2⟩ := H.head
  have z := H.frz
  have zp := H.frp
  have hgp := H.1
  have hsf := H.2.2.2.2
  obtain ⟨af, cf, rfl⟩ := hsf.form
  have hsl := H.2.2.2.1
  have hpl := lt_of_block H.2.2.1
  have HH := Lib.hid H
  clear H hsf
  simp at h1
  go_enter Tryz.func197, Tryz.ntmps197
  go_wp2_with (at_builtin; refine wpList_app rfl _ _ _ _ rfl Tryz.underlying228 hi hz0 hz1 hz2 rfl (.slice (some ⟨g, off, none⟩) m c) _ m 1 (arena f m) [.string ⟨#[]⟩, .int .i64 0, .int .i64 0, .bool false] rfl rfl ?hsl (arena_one f m) ?src ?c3 ?c4 _ rfl ?_)
  case hsl => exact hsl.fr ((Fr.refl [] _).alloc _) (fun b _ => by simp)
  case src => exact Src.built Tryz.underlying228 _ [.string ⟨#[]⟩, .int .i64 0, .int .i64 0, .bool false] _ _ (by simp) rfl (by simp [Value.oneCell'])
  case c3 => unfold maxLen; omega
  case c4 => omega
  intro b' cp w1 hs1 hf1 hat
  obtain ⟨g', off', c', hb', hg'⟩ := hs1.pos (by omega)
  simp at hb'
  obtain ⟨rfl, rfl⟩ := hb'
  replace hs1 : Sl w1 237 4 (.slice (some ⟨g', off', none⟩) (m + 1) cp) (m + 1) (arena (up f m Lk.zero) (m + 1)) := by rw [arena_snoc]; exact hs1
  have hg2 : g' ≠ p := by
    rcases hat with h | h
    · simp [Value.ownBlock] at h; rw [h]; exact hgp
    · simp [Value.ownBlock] at h; omega
  have q0 := HH.out.keep ((Fr.refl [] w).alloc (.cells #[.string ⟨#[]⟩, .int .i64 0, .int .i64 0, .bool false] 237)) (by simp) (by simp) (fun b _ => by simp)
  have hpb := hf1.get q0.2.2.1 (by simp [Value.ownBlock]; exact fun h => hgp h.symm)
  have q1 : LRaw (w1.setCell ⟨p, 0, none⟩ (.slice (some ⟨g', off', none⟩) (m + 1) cp)) p g' off' cp (m + 1) (up f m Lk.zero) (.slice af 0 cf) [] n := by
    have kp := (Fr.refl [p] w1).setCell (p := ⟨p, 0, none⟩) (by simp) (.slice (some ⟨g', off', none⟩) (m + 1) cp)
    refine ⟨hg2, ?_, ?_, hs1.fr kp (fun b hb hp => by simp [Value.ownBlock] at hb hp; exact hg2 (hb.symm.trans hp)), (q0.2.2.2.2.fr hf1 ?_).fr kp ?_⟩
    · intro b hb
      refine ⟨(q0.2.1 b hb).1, ?_⟩
      rintro rfl
      rcases hat with h | h
      · simp [Value.ownBlock] at h; exact (q0.2.1 b hb).2 h
      · have := q0.2.2.2.2.lt b (by simp [hb]); simp [Value.ownBlock] at h; simp at this; omega
    · rw [block_set_same hpb]; simp
    · intro b hb hg; simp [Value.ownBlock] at hg; simp at hb; exact (q0.2.1 b hb).2 hg
    · intro b hb hp; simp at hp hb; exact (q0.2.1 b hb).1 hp
  have k0 : w1.cell? ⟨p, 0, none⟩ = some (.slice (some ⟨g, off, none⟩) m c) := by rw [cell_of_block hpb]; rfl
  have k2 : w1.cell? ⟨p, 2, none⟩ = some (.int .i64 n) := by rw [cell_of_block hpb]; rfl
  have zp1 := fun i => free_of_block hpb i
  have a0 : w1.cell? ⟨g', off' + m * 4, none⟩ = some (.string ⟨#[]⟩) := hs1.cell (j := m * 4 + 0) (by rw [arena_get _ _ _ _ (by omega) (by omega), up_same]; rfl)
  have a1 : w1.cell? ⟨g', off' + m * 4 + 1, none⟩ = some (.int .i64 0) := by rw [Nat.add_assoc]; exact hs1.cell (by rw [arena_get _ _ _ _ (by omega) (by omega), up_same]; rfl)
  have a2 : w1.cell? ⟨g', off' + m * 4 + 2, none⟩ = some (.int .i64 0) := by rw [Nat.add_assoc]; exact hs1.cell (by rw [arena_get _ _ _ _ (by omega) (by omega), up_same]; rfl)
  have a3 : w1.cell? ⟨g', off' + m * 4 + 3, none⟩ = some (.bool false) := by rw [Nat.add_assoc]; exact hs1.cell (by rw [arena_get _ _ _ _ (by omega) (by omega), up_same]; rfl)
  have z1 : ∀ i, w1.frozen? ⟨g', i, none⟩ = false := by
    intro i
    rcases hs1.2 with ⟨h1, _⟩ | ⟨g'', off'', cap, cur, h1, hgg, _⟩
    · simp at h1
    · simp at h1
      obtain ⟨⟨rfl, rfl⟩, rfl⟩ := h1
      exact free_of_block hgg i
  have q2 := (q1.setAll m (by omega) ⟨v, 0, 0, true⟩).setLen (n + 1)
  have hfr : Fr [p, g] w w1 := (((Fr.refl [] w).alloc _).mono (by simp)).same (hf1.mono (fun b hb _ => by simp [Value.ownBlock] at hb; simp [hb]))
  have hge : g' = g ∨ w.heap.size ≤ g' := by
    rcases hat with h | h
    · left; simpa [Value.ownBlock] using h
    · right; simp [Value.ownBlock] at h; omega
  have Q := Lib.hid (And.intro q2 (And.intro hfr hge))
  have hb1 : g' < w1.heap.size := hg'
  clear q2 q1 hfr hge hpb hat hs1 hf1 q0 hsl h0 h1 h2 z zp HH
  go_wp2
  go_ret
  obtain ⟨q2, hfr, hge⟩ := Q.out
  refine ⟨m, g', off', cp, m + 1, _, [], rfl, q2.congr (fun k _ => by simp only [up]; split <;> rfl), .inr ⟨rfl, rfl, rfl, rfl⟩, hge, rfl, ?_⟩
  have h3 : Fr [p, g, g'] w w1 := hfr.mono (fun b hb _ => by simp at hb ⊢; rcases hb with h | h <;> simp [h])
  refine (((((((h3.setCell (by simp) _).setCell (by simp) _).setCell (by simp) _).setCell (by simp) _).setCell (by simp) _).setCell (by simp) _)).mono (fun b hb hlt => ?_)
  simp at hb ⊢
  rcases hb with h | h | h
  · exact .inl h
  · exact .inr h
  · rcases hge with h2 | h2
    · right; rw [h, h2]
    · omega

end
/-- A list: its handles with their values, from the front on. -/
def LRep (w : World) (p : Nat) (F : List Nat) (L : List (Nat × ByteArray)) : Prop :=
  ∃ (g off c m : Nat) (f : Nat → Lk) (vf : Value) (fr : List Nat), F = p :: g :: vf.ownBlock.toList ∧ m ≤ 100000 ∧ LInv m f fr L ∧ LRaw w p g off c m f vf fr L.length
theorem LRep.fr {w w' : World} {p : Nat} {F G : List Nat} {L : List (Nat × ByteArray)} (h : LRep w p F L) (k : Fr G w w') (hd : Dis F G) : LRep w' p F L := by
  obtain ⟨g, off, c, m, f, vf, fr, rfl, hm, hi, hr⟩ := h
  exact ⟨g, off, c, m, f, vf, fr, rfl, hm, hi, hr.keep k (hd p (by simp)) (hd g (by simp)) (fun b hb => hd b (by simp at hb; simp [hb]))⟩
theorem LRep.lt {w : World} {p : Nat} {F : List Nat} {L : List (Nat × ByteArray)} (h : LRep w p F L) : Lt F w := by
  obtain ⟨g, off, c, m, f, vf, fr, rfl, hm, hi, h1, h2, h3, h4, h5⟩ := h
  intro b hb
  simp at hb
  rcases hb with rfl | rfl | hb
  · exact lt_of_block h3
  · exact h4.lt b (by simp [Value.ownBlock])
  · exact h5.lt b (by simp [hb])
theorem LRep.len {w : World} {p : Nat} {F : List Nat} {L : List (Nat × ByteArray)} (h : LRep w p F L) : L.length < 100000 := by
  obtain ⟨g, off, c, m, f, vf, fr, rfl, hm, hi, hr⟩ := h
  have := hi.size
  omega
theorem LRep.hnd {w : World} {p : Nat} {F : List Nat} {L : List (Nat × ByteArray)} (h : LRep w p F L) : ∀ e, e ∈ L → 0 < e.1 ∧ e.1 < 100000 := by
  obtain ⟨g, off, c, m, f, vf, fr, rfl, hm, hi, hr⟩ := h
  intro e he
  have := hi.at_ e he
  omega
theorem LRep.nd {w : World} {p : Nat} {F : List Nat} {L : List (Nat × ByteArray)} (h : LRep w p F L) : (L.map (·.1)).Nodup := by
  obtain ⟨g, off, c, m, f, vf, fr, rfl, hm, hi, hr⟩ := h
  exact hi.nd

theorem pushBack {w : World} {p : Nat} {F : List Nat} {L : List (Nat × ByteArray)} (H : LRep w p F L) (hL : L.length ≤ 99000) (v : ByteArray) :
    Calls Tryz.prog 134 #[.pointer (some ⟨p, 0, none⟩), .string v] w fun e w' => ∃ (h : Nat) (F' : List Nat), e = .returned (.int .i64 h) ∧ 0 < h ∧ h < 100000 ∧ h ∉ L.map (·.1) ∧ LRep w' p F' (L ++ [(h, v)]) ∧ Sub F' F w ∧ Fr F w w' := by
  have hlt := H.lt
  obtain ⟨g, off, c, m, f, vf, fr, rfl, hm, hi, hr⟩ := H
  have hsz := hi.size
  have htake : Calls Tryz.prog 197 #[.pointer (some ⟨p, 0, none⟩), .string v] w (Taken w p g m L.length f vf fr v) := by
    rcases List.eq_nil_or_concat fr with rfl | ⟨fr', h, e⟩
    · exact take_grow hr hm (by omega) v
    · rw [List.concat_eq_append] at e
      subst e
      exact take_free hr rfl (hi.free h (by simp)).2.1 hm (by omega) (by omega) v
  have HT := Lib.hid htake
  have HI := Lib.hid hi
  have HLT := Lib.hid hlt
  clear htake hr hi hlt
  go_enter Tryz.func134, Tryz.ntmps134
  go_wp2_with fail
  refine HT.out.mono ?_
  rintro e w1 ⟨h, g', off', c', m', vf', fr', rfl, hr, hh, hge, hvf, hf1⟩
  obtain ⟨q1, q2, q3, q4, q5⟩ := HI.out.fresh hh
  obtain ⟨k0, k1, k2⟩ := hr.head
  obtain ⟨_, a1, _, _⟩ := hr.cell 0 (by omega)
  rw [up_other _ _ _ _ (by omega)] at a1
  simp at a1
  obtain ⟨q, hq⟩ : ∃ q, (f 0).p = q := ⟨_, rfl⟩
  rw [hq] at q4 q5 a1
  have HQ := Lib.hid hq
  have HHH := Lib.hid hh
  have hm' : m' ≤ 100001 := by rcases hh with ⟨_, rfl⟩ | ⟨_, _, _, rfl⟩ <;> omega
  have hm2 : m' ≤ 100000 := by
    have := HI.out.size
    rcases hh with ⟨_, rfl⟩ | ⟨rfl, _, _, rfl⟩
    · omega
    · simp at this; omega
  clear hh hq
  go_wp2_with fail
  refine (lays hr h q 0 q2 q5 (by omega) (by omega) (by omega) (by omega)).mono ?_
  rintro e w2 ⟨rfl, hr2, hf2⟩
  go_wp2
  go_ret
  have hi2 : LInv m' (laysF (up f h ⟨v, 0, 0, true⟩) h q 0) fr' (L ++ [(h, v)]) := by
    refine HI.out.push v HHH.out ?_
    rw [HQ.out]
    funext k
    simp only [laysF, up]
    by_cases e1 : k = h <;> by_cases e2 : k = q <;> by_cases e3 : k = 0 <;> by_cases e4 : q = 0 <;> by_cases e5 : h = 0 <;> by_cases e6 : q = h <;> simp_all <;> omega
  refine ⟨h, p :: g' :: vf'.ownBlock.toList, rfl, q1, by omega, q3, ⟨g', off', c', m', _, vf', fr', rfl, hm2, hi2, by simpa using hr2⟩, ?_, ?_⟩
  · intro b hb
    simp at hb ⊢
    rw [hvf] at hb
    rcases hb with h | h | h
    · exact .inl (.inl h)
    · rcases hge with h2 | h2
      · left; right; left; rw [h, h2]
      · right; omega
    · exact .inl (.inr (.inr h))
  · refine hf1.trans hf2 (fun b hb _ => ?_) (fun b hb hlt => ?_)
    · simp at hb ⊢
      rcases hb with h | h
      · exact .inl h
      · exact .inr (.inl h)
    · simp at hb ⊢
      rcases hge with h2 | h2
      · right; left; omega
      · omega
end Go.Proofs.YtphlancijlljcaaGreat
