/- Package ghost, walked: Add, Keys, New. -/
import Derived.Test.YtphlancijlljcaaGreatGhost
import Derived.Test.YtphlancijlljcaaGreatArc5
set_option linter.unusedVariables false
set_option linter.unusedSimpArgs false
namespace Go.Proofs.YtphlancijlljcaaGreat
open Go.RowKit
attribute [local go_sem ↓] Go.wp_at_zero Go.wp_at_succ
theorem GAt.push {w w1 w2 : World} {l x n : Nat} {Fl Fx Fl2 Fx2 : List Nat} {L : List (Nat × ByteArray)} {M : ByteArray → Option Nat} {h : Nat} {key : ByteArray}
    (H : GAt w l x Fl Fx L M n) (hk : key ∉ L.map (·.2)) (hz : key.size ≤ maxLen) (hl : LRep w1 l Fl2 (L ++ [(h, key)])) (hs : Sub Fl2 Fl w) (hf : Fr Fl w w1)
    (hi : IRepI w2 x Fx2 (upM M key (some h)) (nPut M key n)) (hs2 : Sub Fx2 Fx w1) (hf2 : Fr Fx w1 w2) : GAt w2 l x Fl2 Fx2 (L ++ [(h, key)]) (upM M key (some h)) (n + 1) := by
  have hM := (H.nop key).2 hk
  obtain ⟨lst, idx, d, nd, sz, co, le⟩ := H
  have e1 : nPut M key n = n + 1 := by simp [nPut, hM]
  rw [e1] at hi
  have d1 : Dis Fl2 Fx := d.sub hs idx.lt
  refine ⟨hl.fr hf2 d1, hi, (d1.symm.sub hs2 hl.lt).symm, ?_, ?_, fun k i => ?_, by simp; omega⟩
  · rw [List.map_append]; exact nd_snoc nd hk
  · intro k hk2
    rw [List.map_append] at hk2
    rcases List.mem_append.1 hk2 with h | h
    · exact sz k h
    · simp at h; subst h; exact hz
  · unfold upM
    by_cases e : k = key
    · subst e
      rw [if_pos rfl]
      simp only [List.mem_append, List.mem_singleton]
      constructor
      · intro h; cases h; exact .inr rfl
      · rintro (h | h)
        · exact absurd (List.mem_map_of_mem (f := (·.2)) h) hk
        · cases h; rfl
    · rw [if_neg e, co]
      simp only [List.mem_append, List.mem_singleton]
      constructor
      · exact fun h => .inl h
      · rintro (h | h)
        · exact h
        · cases h; exact absurd rfl e
def GAddRet (w : World) (p : Nat) (F : List Nat) (g : Gh) (en : Ending) (w' : World) : Prop := ∃ (v : ByteArray) (b : Bool), en = .returned (.tuple #[.string v, .bool b]) ∧ GhGo w p F g w'
theorem cutQ_head {a : ByteArray} {l : List ByteArray} (h : (a :: l).Nodup) : cutQ (a :: l) a = l := by
  have h2 := (List.nodup_cons.1 h).1
  unfold cutQ
  rw [List.filter_cons_of_neg (by simp), List.filter_eq_self]
  intro b hb
  have : b ≠ a := fun e => h2 (e ▸ hb)
  simpa using this
section
variable {w : World} {p : Nat} {F : List Nat} {g : Gh}
set_option maxRecDepth 100000 in
theorem gadd (H : GhRep w p F g) (hi : g.Inv) (key : ByteArray) (hk : key.size ≤ maxLen) :
    Calls Tryz.prog 77 #[.pointer (some ⟨p, 0, none⟩), .string key] w (GAddRet w p F (g.add key)) := by
  have hcl := cutQ_le g.L key
  have hle := hi.le
  have hr2 := hi.r2
  obtain ⟨bb, hbb⟩ : ∃ b, decide (key ∈ g.L) = b := ⟨_, rfl⟩
  have HT := Lib.hid (gtake H (by omega) key hk hbb)
  have HI := Lib.hid hi
  clear H hi hbb
  go_enter Tryz.func77, Tryz.ntmps77
  go_wp2_with fail
  refine HT.out.mono ?_
  rintro en w1 ⟨rfl, F1, H1, hs1, hg1⟩
  obtain ⟨l, x, Fl, Fx, L, M, n, rfl, h1, h2, h3, h4, h5⟩ := H1
  obtain ⟨k0, k1, k2⟩ := h3.cells
  have hL : L.length = (cutQ g.L key).length := by
    have : (L.map (·.2)).length = (cutQ g.L key).length := by rw [h5]; rfl
    simpa using this
  have hpb := Lib.hid (pushBack (h4.lst.fr ((Fr.refl [] _).drew) (fun b _ => by simp)) (by omega) key)
  have hput := Lib.hid fun (h : Nat) (w3 : World) (f : Fr Fl w1.drew w3) => iputI ((h4.idx.fr ((Fr.refl [] _).drew) (fun b _ => by simp)).fr f h4.d.symm) (by have := h4.le; omega) key hk h
  have hkn : key ∉ L.map (·.2) := by rw [h5]; exact not_mem_cutQ _ _
  have HH := Lib.hid (And.intro h3 (And.intro h4 (And.intro h5 (And.intro hs1 (And.intro hg1 hkn)))))
  have hL2 : L.length ≤ 1024 := by omega
  have HLL := Lib.hid hL
  clear h3 h4 h5 hs1 hg1 hkn hL
  go_wp2_with fail
  first
    | (go_region_held3 (fun w' => w'.cell? ⟨p, 1, none⟩ = some (.pointer (some ⟨l, 0, none⟩)) ∧ w'.cell? ⟨p, 2, none⟩ = some (.pointer (some ⟨x, 0, none⟩)))
        (first
          | (have _h := hf4; exact ⟨cell_fr hf4 (cell_fr hf3 (cell_fr ((Fr.refl [] _).drew) k1 (by simp)) h1) h2, cell_fr hf4 (cell_fr hf3 (cell_fr ((Fr.refl [] _).drew) k2 (by simp)) h1) h2⟩)
          | (have _h := hf3; exact ⟨cell_fr hf3 (cell_fr ((Fr.refl [] _).drew) k1 (by simp)) h1, cell_fr hf3 (cell_fr ((Fr.refl [] _).drew) k2 (by simp)) h1⟩)
          | exact ⟨k1, k2⟩)
        (first
          | (go_at_call 134; refine hpb.out.mono ?_; rintro e w3 ⟨h, Fl2, rfl, hh0, hh1, hh2, hl3, hs3, hf3⟩)
          | (go_at_call 133; refine (hput.out h w3 hf3).mono ?_; rintro e w4 ⟨b4, Fx2, rfl, hi4, hs4, hf4⟩)))
    | fail
  obtain ⟨h3, h4, h5, hs1, hg1, hkn⟩ := HH.out
  have k0 := cell_fr hf4 (cell_fr hf3 (cell_fr ((Fr.refl [] _).drew) k0 (by simp)) h1) h2
  have k1 := cell_fr hf4 (cell_fr hf3 (cell_fr ((Fr.refl [] _).drew) k1 (by simp)) h1) h2
  have hb4 := hf4.get (hf3.get (((Fr.refl [] _).drew).get h3 (by simp)) h1) h2
  have ha4 := (h4.fr ((Fr.refl [] _).drew) (fun b _ => by simp) (fun b _ => by simp)).push hkn hk hl3 hs3 hf3 hi4 hs4 hf4
  have hp1 : p < w1.heap.size := lt_of_block h3
  have hp4 : p ∉ Fl2 := fun hb => by
    rcases hs3 p hb with h | h
    · exact h1 h
    · simp at h; omega
  have hp5 : p ∉ Fx2 := fun hb => by
    rcases hs4 p hb with h | h
    · exact h2 h
    · have := hf3.size; simp at this; omega
  have hfr : Fr (p :: (Fl ++ Fx)) w1 w4 := ((((Fr.refl [] _).drew).nil).same (hf3.mono (by intro b hb _; simp [hb]))).same (hf4.mono (by intro b hb _; simp [hb]))
  have hsub : Sub (p :: (Fl2 ++ Fx2)) (p :: (Fl ++ Fx)) w1 := by
    intro b hb
    simp at hb
    rcases hb with rfl | hb | hb
    · exact .inl (by simp)
    · rcases hs3 b hb with h | h
      · exact .inl (by simp [h])
      · exact .inr (by simpa using h)
    · rcases hs4 b hb with h | h
      · exact .inl (by simp [h])
      · right; have := hf3.size; simp at this; omega
  have hL3 : (L ++ [(h, key)]).length = L.length + 1 := by simp
  have HLen := Lib.hid fun (w5 : World) (f : Fr [] w4 w5) => len_l (ha4.lst.fr f (fun b _ => by simp))
  rw [hL3] at HLen
  have hrep : GhRep w4 p (p :: (Fl2 ++ Fx2)) ⟨cutQ g.L key ++ [key], g.room⟩ := ⟨l, x, Fl2, Fx2, _, _, _, rfl, hp4, hp5, hb4, ha4, by rw [List.map_append, h5]; rfl⟩
  have HS := Lib.hid (And.intro (hs1.fr hg1 hsub) (hg1.via hs1 hfr))
  have hnd4 := ha4.nd
  have hsz4 := ha4.sz
  have hlst := ha4.lst
  have hcm : (L ++ [(h, key)]).map (·.2) = cutQ g.L key ++ [key] := by rw [List.map_append, h5]; rfl
  obtain ⟨room, hroom⟩ : ∃ r, g.room = r := ⟨_, rfl⟩
  have hll := HLL.out
  replace k0 : w4.cell? ⟨p, 0, none⟩ = some (.int .i64 g.room) := k0
  rw [hroom] at k0 hr2 hle hrep
  obtain ⟨ll, hlle⟩ : ∃ m, L.length = m := ⟨_, rfl⟩
  rw [hlle] at HLen hL2 hL3 hll
  obtain ⟨gone, tl, hgt⟩ : ∃ a t, L ++ [(h, key)] = a :: t := by
    cases L with
    | nil => exact ⟨_, _, rfl⟩
    | cons a t => exact ⟨a, t ++ [(h, key)], rfl⟩
  have hradd : g.add key = { g with L := if ll + 1 ≤ room then cutQ g.L key ++ [key] else (cutQ g.L key ++ [key]).tail } := by
    unfold Gh.add
    rw [hroom, List.length_append, ← hll]; rfl
  rw [hgt] at hlst hnd4 hcm hsz4
  have HFt := Lib.hid fun (w5 : World) (f : Fr [] w4 w5) => front (hlst.fr f (fun b _ => by simp))
  have HGt := Lib.hid fun (w5 : World) (f : Fr [] w4 w5) => get_in (hlst.fr f (fun b _ => by simp)) (h := gone.1) (v := gone.2) (by simp)
  have hgsz : gone.2.size ≤ maxLen := hsz4 _ (by simp)
  have HTk := Lib.hid fun (w5 : World) (f : Fr [] w4 w5) => gtake (b := true) (hrep.fr0 f) (by rw [← hcm, ← hgt]; simp; omega) gone.2 hgsz (by rw [decide_eq_true_iff]; show gone.2 ∈ cutQ g.L key ++ [key]; rw [← hcm]; simp)
  have hcut : cutQ (cutQ g.L key ++ [key]) gone.2 = (cutQ g.L key ++ [key]).tail := by
    rw [← hcm]; simp only [List.map_cons] at hnd4 ⊢; exact cutQ_head hnd4
  have HX := Lib.hid (And.intro hrep (And.intro hradd (And.intro hcut hroom)))
  clear hrep hradd hcut hroom hlst hnd4 hsz4 hcm hgt hlle hll ha4 hb4 h3 h4 h5 hs1 hg1 hkn hi4 hl3 hf3 hf4 hs3 hs4 hfr hsub hh2 HH HLL k2 hL3 hcl
  by_cases hlt : ll + 1 ≤ room
  · have q1 : (ll : Int) + 1 ≤ (room : Int) := by omega
    go_wp2_with fail
    first
      | (go_region_held3 (fun w' => w'.cell? ⟨p, 0, none⟩ = some (.int .i64 room) ∧ w'.cell? ⟨p, 1, none⟩ = some (.pointer (some ⟨l, 0, none⟩)))
          (first
            | exact ⟨k0, k1⟩
            | exact ⟨cell_fr ((Fr.refl [] _).drew) k0 (by simp), cell_fr ((Fr.refl [] _).drew) k1 (by simp)⟩)
          (first | (go_at_call 135; refine (HLen.out _ ((Fr.refl [] _).drew)).mono ?_; rintro e w5 ⟨rfl, rfl⟩)))
      | fail
    go_wp2
    go_ret2
    obtain ⟨a1, a2, a3, a4⟩ := HX.out
    refine ⟨_, _, rfl, ?_⟩
    rw [a2, if_pos hlt, a4]
    exact ⟨_, a1.fr0 ((Fr.refl [] _).drew), HS.out.1, HS.out.2.drew⟩
  · have q1 : (room : Int) < (ll : Int) + 1 := by omega
    go_wp2_with fail
    first
      | (go_region_held3 (fun w' => w'.cell? ⟨p, 0, none⟩ = some (.int .i64 room) ∧ w'.cell? ⟨p, 1, none⟩ = some (.pointer (some ⟨l, 0, none⟩)))
          (first
            | exact ⟨k0, k1⟩
            | exact ⟨cell_fr ((Fr.refl [] _).drew) k0 (by simp), cell_fr ((Fr.refl [] _).drew) k1 (by simp)⟩)
          (first | (go_at_call 135; refine (HLen.out _ ((Fr.refl [] _).drew)).mono ?_; rintro e w5 ⟨rfl, rfl⟩)))
      | fail
    have k1 := cell_fr ((Fr.refl [] _).drew) k1 (by simp)
    clear k0
    have HD1 := Lib.hid (show Fr [] w4 w4.drew from ((Fr.refl [] _).drew))
    generalize w4.drew = w5 at *
    go_wp2_with fail
    go_quiet (first | (go_at_call 137; exact Calls.quiet_of_same ((HFt.out _ (HD1.out.drewN _)).mono fun _ _ h => ⟨h.1, h.2.symm⟩)) | (go_at_call 136; exact Calls.quiet_of_same ((HGt.out _ (HD1.out.drewN _)).mono fun _ _ h => ⟨h.1, h.2.symm⟩)))
    go_wp2_with fail
    refine (HTk.out _ (HD1.out.drewN _)).mono ?_
    rintro e w6 ⟨rfl, hgo⟩
    have HG := Lib.hid (hgo.old (HD1.out.drewN _))
    clear hgo
    go_wp2
    go_ret2
    obtain ⟨a1, a2, a3, a4⟩ := HX.out
    refine ⟨_, _, rfl, ?_⟩
    rw [a2, if_neg hlt, a4]
    have e : (({ L := cutQ g.L key ++ [key], room := room } : Gh).take gone.2) = { L := (cutQ g.L key ++ [key]).tail, room := room } := by
      unfold Gh.take; rw [a3]
    have := HG.out
    rw [e] at this
    exact GhGo.trans HS.out.1 HS.out.2 this
end
theorem Gh.Inv.add {g : Gh} (h : g.Inv) {key : ByteArray} (hz : key.size ≤ maxLen) : (g.add key).Inv := by
  obtain ⟨nd, sz, r1, r2, le⟩ := h
  have hn : (cutQ g.L key ++ [key]).Nodup := nd_snoc (nd.filter _) (not_mem_cutQ _ _)
  have hs : ∀ k, k ∈ cutQ g.L key ++ [key] → k.size ≤ maxLen := fun k hk => by
    rcases List.mem_append.1 hk with h | h
    · exact sz k (mem_cutQ.1 h).1
    · simp at h; subst h; exact hz
  have hl := cutQ_le g.L key
  unfold Gh.add
  split
  · rename_i h; exact ⟨hn, hs, r1, r2, h⟩
  · rename_i h
    refine ⟨hn.sublist (List.tail_sublist _), fun k hk => hs k ((List.tail_sublist _).subset hk), r1, r2, ?_⟩
    simp only [List.length_tail, List.length_append, List.length_singleton] at *
    omega
theorem Gh.Inv.take {g : Gh} (h : g.Inv) (key : ByteArray) : (g.take key).Inv := by
  obtain ⟨nd, sz, r1, r2, le⟩ := h
  exact ⟨nd.filter _, fun k hk => sz k (mem_cutQ.1 hk).1, r1, r2, Nat.le_trans (cutQ_le _ _) le⟩
def Gh.new (room : Int) : Gh := ⟨[], roomN room⟩
theorem Gh.Inv.new (room : Int) : (Gh.new room).Inv := ⟨List.nodup_nil, by simp [Gh.new], (roomN_bd room).1, (roomN_bd room).2, Nat.zero_le _⟩
set_option maxRecDepth 100000 in
theorem gnew (w : World) (room : Int) (h0 : -9223372036854775808 ≤ room) (h1 : room ≤ 9223372036854775807) :
    Calls Tryz.prog 74 #[.int .i64 room] w fun en w' => ∃ p F, en = .returned (.pointer (some ⟨p, 0, none⟩)) ∧ GhRep w' p F (Gh.new room) ∧ Ge w.heap.size F ∧ Fr [] w w' := by
  go_enter Tryz.func74, Tryz.ntmps74
  go_wp2_with fail
  refine (fixClamp room 1 1024 h0 h1 (by omega) (by omega) (by omega) _).mono ?_
  rintro en w0 ⟨rfl, rfl⟩
  obtain ⟨rm, hrm⟩ : ∃ r : Nat, roomN room = r := ⟨_, rfl⟩
  have hri : min (max room 1) 1024 = (rm : Int) := by rw [← hrm]; unfold roomN; omega
  rw [hri]
  have HRM := Lib.hid hrm
  clear hri hrm
  go_wp2_with fail
  refine (listNew _).mono ?_
  rintro en w1 ⟨l, Fl, rfl, hl, hgl, hf1⟩
  go_wp2_with fail
  refine (idxNewI _).mono ?_
  rintro en w2 ⟨x, Fx, rfl, hx, hgx, hf2⟩
  have HX := Lib.hid (And.intro hl (And.intro hgl (And.intro hf1 (And.intro hx (And.intro hgx hf2)))))
  clear hl hgl hf1 hx hgx hf2
  go_wp2
  go_ret
  obtain ⟨hl, hgl, hf1, hx, hgx, hf2⟩ := HX.out
  have hl2 := (hl.fr hf2 (fun b _ => by simp)).lt
  have hx2 := hx.lt
  have hs1 := hf1.size
  have hs2 := hf2.size
  have ha : Fr [] w2 (w2.alloc (.cells #[.int .i64 rm, .pointer (some ⟨l, 0, none⟩), .pointer (some ⟨x, 0, none⟩)] 162)) := (Fr.refl [] _).alloc _
  refine ⟨w2.heap.size, w2.heap.size :: (Fl ++ Fx), rfl, ⟨l, x, Fl, Fx, [], _, 0, rfl, fun h => by have := hl2 _ h; omega, fun h => by have := hx2 _ h; omega, ?_, ⟨(hl.fr hf2 (fun b _ => by simp)).fr ha (fun b _ => by simp), hx.fr ha (fun b _ => by simp), fun b h1 h2 => ?_, by simp, by simp, by simp, Nat.zero_le _⟩, rfl⟩, ?_, (hf1.same hf2).alloc _⟩
  · show _ = _
    rw [block_alloc_new]
    simp only [Gh.new, HRM.out]
  · have := hl.lt b h1; have := hgx b h2; omega
  · intro b hb
    simp at hb
    rcases hb with rfl | hb | hb
    · omega
    · exact hgl b hb
    · have := hgx b hb; omega
end Go.Proofs.YtphlancijlljcaaGreat
