/- The walks over package list, last part: Remove, All, New. -/
import Derived.Test.YtphlancijlljcaaGreatList3
set_option linter.unusedVariables false
set_option linter.unusedSimpArgs false
namespace Go.Proofs.YtphlancijlljcaaGreat
open Go.RowKit
attribute [local go_sem ↓] Go.wp_at_zero Go.wp_at_succ

/-- The free places get one more. -/
theorem LRaw.pushFree {w w2 : World} {p g off c m n h H : Nat} {f : Nat → Lk} {vf vf' : Value} {fr : List Nat} {X : Obj} (q : LRaw w p g off c m f vf fr n) (hf2 : Fr vf.ownBlock.toList (w.alloc X) w2)
    (hs2 : Sl w2 3 1 vf' (fr.length + 1) ((fr.map fun i => Value.int .i64 (i : Nat)) ++ [.int .i64 h])) (hat : vf'.ownBlock = vf.ownBlock ∨ vf'.ownBlock = some H) (hp : p < H) (hg : g < H) :
    LRaw (w2.setCell ⟨p, 1, none⟩ vf') p g off c m f vf' (fr ++ [h]) n := by
  have q' := q.keep ((Fr.refl [] w).alloc X) (by simp) (by simp) (fun b _ => by simp)
  obtain ⟨h1, h2, h3, h4, h5⟩ := q'
  have k := (Fr.refl [p] w2).setCell (p := ⟨p, 1, none⟩) (by simp) vf'
  have hv : ∀ b, vf'.ownBlock = some b → b ≠ p ∧ b ≠ g := by
    intro b hb
    rcases hat with h | h
    · exact h2 b (by rw [← h]; exact hb)
    · rw [h] at hb; simp at hb; omega
  have n1 : p ∉ vf.ownBlock.toList := by simp; intro e; exact (h2 p e).1 rfl
  refine ⟨h1, hv, ?_, (h4.fr hf2 (fun b hb hx => by simp [Value.ownBlock] at hb; simp at hx; exact (h2 b hx).2 hb)).fr k (fun b hb hp => by simp [Value.ownBlock] at hb hp; exact h1 (hb.symm.trans hp)), ?_⟩
  · rw [block_set_same (hf2.get h3 n1)]; simp
  · have : Sl w2 3 1 vf' (fr ++ [h]).length ((fr ++ [h]).map fun i => Value.int .i64 (i : Nat)) := by
      rw [List.length_append, List.map_append]; exact hs2
    exact this.fr k (fun b hb hp => by simp at hb hp; exact (hv b hb).1 hp)

theorem LRaw.after {w w2 : World} {p g off c m n : Nat} {f : Nat → Lk} {vf : Value} {fr : List Nat} {X : Obj} (q : LRaw w p g off c m f vf fr n) (hf2 : Fr vf.ownBlock.toList (w.alloc X) w2) :
    w2.heap[p]? = some (.cells #[.slice (some ⟨g, off, none⟩) m c, vf, .int .i64 n] 230 (0, 0)) := by
  have q' := q.keep ((Fr.refl [] w).alloc X) (by simp) (by simp) (fun b _ => by simp)
  exact hf2.get q'.2.2.1 (by simp; intro e; exact (q'.2.1 p e).1 rfl)

set_option maxRecDepth 100000 in
theorem remove_in {w : World} {p : Nat} {F : List Nat} {L1 L2 : List (Nat × ByteArray)} {h : Nat} {v : ByteArray} (H : LRep w p F (L1 ++ (h, v) :: L2)) :
    Calls Tryz.prog 131 #[.pointer (some ⟨p, 0, none⟩), .int .i64 h] w fun e w' => e = .returned (.tuple #[.string v, .bool true]) ∧ ∃ F', LRep w' p F' (L1 ++ L2) ∧ Sub F' F w ∧ Fr F w w' := by
  obtain ⟨i0, hii, hz0, hz1, hz2⟩ := info_parts2 infoInt
  have hc := get_in H (h := h) (v := v) (by simp)
  have hlen := H.len
  obtain ⟨g, off, c, m, f, vf, fr, rfl, hm, hi, hr⟩ := H
  have hsz := hi.size
  have ha := hi.at_ (h, v) (by simp)
  simp at ha
  have hsg := hi.seg
  simp only [List.map_append, List.map_cons] at hsg
  obtain ⟨s1, s2⟩ := Seg.append.1 hsg
  have hpm : (f h).p < m := hi.bd _ (by have := s1.last.1; simp at this ⊢; grind)
  have hnm : (f h).n < m := by
    have hf := s2.first
    have : (f h).n ∈ L2.map (·.1) ++ [0] := by rw [hf]; exact List.head_mem _
    refine hi.bd _ ?_
    simp at this ⊢; grind
  have hfm : fr.length ≤ 100000 := by omega
  have hm2 : (L1 ++ (h, v) :: L2).length = L1.length + L2.length + 1 := by simp; omega
  rw [hm2] at hr
  have HC := Lib.hid hc
  have HI := Lib.hid hi
  have hpl := lt_of_block hr.2.2.1
  have hgl := hr.2.2.2.1.lt g (by simp [Value.ownBlock])
  have hhm : h < m := ha.2.1
  clear hc hi hsg s1 s2 ha hsz hm2
  obtain ⟨n, hn⟩ : ∃ n, L1.length + L2.length = n := ⟨_, rfl⟩
  rw [hn] at hr
  have HN := Lib.hid hn
  have hnb : n ≤ 100000 := by simp at hlen; omega
  clear hn
  go_enter Tryz.func131, Tryz.ntmps131
  go_wp2_with fail
  refine HC.out.mono ?_
  rintro e w0 ⟨rfl, rfl⟩
  go_wp2_with fail
  refine (lifts hr h hhm hpm hnm (by omega)).mono ?_
  rintro e w1 ⟨rfl, hr1, hf1⟩
  have q1 := hr1.setAll h hhm Lk.zero
  obtain ⟨k0, k1, k2⟩ := hr1.head
  obtain ⟨a0, a1, a2, a3⟩ := hr1.cell h hhm
  have z := hr1.frz
  have zp := hr1.frp
  have hgp := hr1.1
  obtain ⟨af, cf, rfl⟩ := hr1.2.2.2.2.form
  have hw1 := hf1.size
  have Q1 := Lib.hid q1
  have HF1 := Lib.hid hf1
  clear q1 hr1 hf1 hr
  go_wp2_with (at_builtin; refine wpList_app rfl _ _ _ _ rfl Tryz.underlying79 hii hz0 hz1 hz2 rfl (.slice af fr.length cf) _ fr.length 1 (fr.map fun i => Value.int .i64 (i : Nat)) [.int .i64 h] rfl rfl ?hsl ?hone ?src ?c3 ?c4 _ rfl ?_)
  case hsl => exact Q1.out.2.2.2.2.fr ((Fr.refl [] _).alloc _) (fun b _ => by simp)
  case hone => intro u hu; obtain ⟨i, _, rfl⟩ := List.mem_map.1 hu; rfl
  case src => exact Src.built Tryz.underlying79 _ [.int .i64 h] _ _ (by simp) rfl (by simp [Value.oneCell'])
  case c3 => unfold maxLen; omega
  case c4 => omega
  intro b' cp w2 hs2 hf2 hat
  have q2 := Q1.out.pushFree hf2 hs2 hat (by omega) (by omega)
  have q3 := q2.setLen n
  have hpb := Q1.out.after hf2
  have k0' : w2.cell? ⟨p, 1, none⟩ = some (.slice af fr.length cf) := by rw [cell_of_block hpb]; rfl
  have k2' : w2.cell? ⟨p, 2, none⟩ = some (.int .i64 ((n : Int) + 1)) := by rw [cell_of_block hpb]; rfl
  have zp2 := fun i => free_of_block hpb i
  have hF2 : Fr (p :: g :: (Value.slice af fr.length cf).ownBlock.toList) w w2 := by
    refine (HF1.out.mono (fun b hb _ => by simp at hb; simp [hb])).same (Fr.same ?_ (hf2.mono (fun b hb _ => by simp at hb ⊢; simp [hb])))
    exact ((((((Fr.refl (p :: g :: (Value.slice af fr.length cf).ownBlock.toList) w1).setCell (by simp) _).setCell (by simp) _).setCell (by simp) _).setCell (by simp) _)).alloc _
  have Q3 := Lib.hid q3
  have HF2 := Lib.hid hF2
  have hat2 := Lib.hid hat
  clear q2 q3 hF2 hat hs2 hf2 hpb Q1 HF1 k0 k1 k2 a0 a1 a2 a3 z zp
  go_wp2
  go_ret2
  refine ⟨rfl, p :: g :: (Value.slice b' (fr.length + 1) cp).ownBlock.toList, ⟨g, off, c, m, _, _, fr ++ [h], rfl, hm, ?_, by rw [show (L1 ++ L2).length = n by rw [List.length_append]; exact HN.out]; exact Q3.out⟩, ?_, (HF2.out.setCell (by simp) _).setCell (by simp) _⟩
  · refine HI.out.remove ?_ ?_ ?_ ?_ ?_ ?_
    · by_cases e : (f h).p = h
      · exact .inr e
      · left; simp [up, liftsF, e]
    · by_cases e : (f h).n = h
      · exact .inr e
      · left; simp [up, liftsF, e]
    · intro k k1 k2; simp [up, liftsF, k1, k2]
    · intro k k1 k2; simp [up, liftsF, k1, k2]
    · intro k k1; simp [up, liftsF, k1]
    · simp [up, Lk.zero]
  · intro b hb
    simp at hb ⊢
    rcases hb with e | e | e
    · exact .inl (.inl e)
    · exact .inl (.inr (.inl e))
    · rcases hat2.out with h2 | h2
      · left; right; right; rw [← h2]; exact e
      · right; rw [h2] at e; simp at e; omega

theorem all_l {w : World} {p : Nat} {F : List Nat} {L : List (Nat × ByteArray)} (H : LRep w p F L) :
    Calls Tryz.prog 155 #[.pointer (some ⟨p, 0, none⟩)] w fun e w' => ∃ v, e = .returned v ∧ w'.ownsRow w.heap.size 9 1 v L.length (L.map fun e => Value.string e.2) ∧ Fr [] w w' := by
  obtain ⟨i0, hii, hz0, hz1, hz2⟩ := info_parts2 infoStr
  have hf := front H
  have hlen := H.len
  have HF := Lib.hid hf
  have HH := Lib.hid H
  clear hf H
  go_enter Tryz.func155, Tryz.ntmps155
  go_wp2_with fail
  refine HF.out.mono ?_
  rintro e w1 ⟨rfl, rfl⟩
  go_wp2_with fail
  go_loopg [3, 4] L.length (fun gg u3 u4 wr => ∃ (L1 L2 : List (Nat × ByteArray)), Aside (L1 ++ L2 = L ∧ L2.length = gg) ∧ u4 = .int .i64 (hd0 L2) ∧ wr.ownsRow w.heap.size 9 1 u3 L1.length (L1.map fun e => Value.string e.2) ∧ Fr [] w wr)
  case atStart => exact ⟨[], L, ⟨rfl, rfl⟩, rfl, World.ownsRow_nil _ _ _ _, Fr.refl _ _⟩
  case round =>
    obtain ⟨L1, L2, hA, rfl, hown, hfr⟩ := hrel
    cases L2 with
    | nil =>
      have e1 : L1 = L := by have := hA.out.1; simpa using this
      subst e1
      have e0 : hd0 [] = 0 := rfl
      rw [e0]
      go_wp2_with fail
      go_ret
      exact ⟨_, rfl, hown, hfr⟩
    | cons x L2 =>
      obtain ⟨h, v⟩ := x
      obtain ⟨e1, e2⟩ := hA.out
      have HL := HH.out.fr hfr (fun b _ => by simp)
      rw [← e1] at HL
      have hn := HL.hnd (h, v) (by simp)
      simp at hn
      have hne : ((h : Int) == 0) = false := by rw [beq_eq_false_iff_ne]; omega
      have hne2 : ((h : Int) != 0) = true := by rw [bne_iff_ne]; omega
      have e0 : hd0 ((h, v) :: L2) = h := rfl
      rw [e0]
      have hl1 : L1.length + 1 ≤ 100000 := by have := HL.len; simp at this; omega
      obtain ⟨g, off, c, m, f, vf, fr, hF, hm, hi, hr⟩ := id HL
      have hat := hi.at_ (h, v) (by simp)
      simp at hat
      obtain ⟨k0, _, _⟩ := hr.head
      obtain ⟨k1, _, _, _⟩ := hr.cell h hat.2.1
      rw [hat.2.2.2] at k1
      have hhm : h < m := hat.2.1
      have HLL := Lib.hid HL
      have HE := Lib.hid (And.intro e1 e2)
      clear hi hr HL hat hF e1 e2 e0 hA
      go_wp2_with (at_builtin; refine wpList_append_lies _ rfl _ _ _ rfl w.heap.size 9 i0 (.string ⟨#[]⟩) 1 16 Tryz.underlying22 hii hz0 hz1 hz2 rfl (by decide) u3 L1.length (L1.map fun e => Value.string e.2) rfl (by exact hown.alloc _) ⟨wr.heap.size, 0, none⟩ 1 1 [.string v] rfl rfl ?c1 ?c2 (by omega) ?c3 ?c4 ?c5 _ rfl ?_)
      case c1 => exact cell_one_new _ _ _
      case c2 => simp [Value.oneCell']
      case c3 => unfold maxLen; omega
      case c4 => omega
      case c5 => have := hfr.size; simp; omega
      intro g2 cp w2 hown2 hgrow hat hlt2
      have hF2 : Fr [] w w2 := (hfr.alloc _).grownOwn hgrow hown
      have HO := Lib.hid hown2
      clear hown2 hat k0 k1
      go_wp2_with fail
      have hnx := (next (HH.out.fr hF2 (fun b _ => by simp) |> fun z => HE.out.1.symm ▸ z))
      refine hnx.mono ?_
      rintro e w3 ⟨rfl, rfl⟩
      go_wp2_with fail
      obtain ⟨e1, e2⟩ := HE.out
      go_roundg L2.length
      case measure => rw [← e2]; simp
      case rel => exact ⟨L1 ++ [(h, v)], L2, ⟨by rw [← e1]; simp, rfl⟩, rfl, by simpa using HO.out, hF2⟩

theorem listNew (w : World) : Calls Tryz.prog 128 #[] w fun e w' => ∃ p F, e = .returned (.pointer (some ⟨p, 0, none⟩)) ∧ LRep w' p F [] ∧ Ge w.heap.size F ∧ Fr [] w w' := by
  obtain ⟨i0, hii, hz0, hz1, hz2⟩ := info_parts2 infoLk
  have hk := run_make (P := Tryz.prog) w 228 237 i0 _ Tryz.underlying228 hii hz0 .i64 .i64 1 1 (by decide) (Int.le_refl _) (by rw [hz2]; decide) (by decide)
  have em : madeCells (Value.agg #[.string ⟨#[]⟩, .int .i64 0, .int .i64 0, .bool false]).cells ((1 : Int).toNat * i0.size) = #[.string ⟨#[]⟩, .int .i64 0, .int .i64 0, .bool false] := by
    rw [hz1]
    apply Array.ext'
    simp [madeCells, Value.cells, List.range_succ]
  rw [em] at hk
  simp at hk
  go_enter Tryz.func128, Tryz.ntmps128
  go_wp2
  go_ret
  have b1 := block_alloc_old (block_alloc_new w (.cells #[.string ⟨#[]⟩, .int .i64 0, .int .i64 0, .bool false] 237)) (.cells #[.slice (some ⟨w.heap.size, 0, none⟩) 1 1, .slice none 0 0, .int .i64 0] 230)
  have b2 := block_alloc_new (w.alloc (.cells #[.string ⟨#[]⟩, .int .i64 0, .int .i64 0, .bool false] 237)) (.cells #[.slice (some ⟨w.heap.size, 0, none⟩) 1 1, .slice none 0 0, .int .i64 0] 230)
  rw [World.size_alloc] at b2
  refine ⟨w.heap.size + 1, [w.heap.size + 1, w.heap.size], rfl, ⟨w.heap.size, 0, 1, 1, fun _ => Lk.zero, .slice none 0 0, [], rfl, by omega, LInv.nil, by omega, by simp [Value.ownBlock], b2, ?_, Sl.nil _ _ _⟩, by intro b hb; simp at hb; omega, ((Fr.refl [] w).alloc _).alloc _⟩
  refine (Sl.built (size := 4) (e := 237) w #[.string ⟨#[]⟩, .int .i64 0, .int .i64 0, .bool false] 1 rfl (by decide)).fr ((Fr.refl [] _).alloc _) (fun b _ => by simp)
end Go.Proofs.YtphlancijlljcaaGreat
