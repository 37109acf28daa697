/- Texts of a proof about the given program, those parts that this claim reaches. -/
import Derived.Shelf.Strings.OnBuilder
import Derived.Shelf.Strconv.Itoa3
import Derived.Test.YtfeicmpbfbhiiaaGreatProg
import Derived.Test.YtfeicmpbfbhiiaaGreatPEg14
namespace Go.Proofs
open Go.Shelf
def Tryz.lays156_ren : Go.Shelf.Ren := ⟨fun | 156 => 301 | 165 => 308 | 166 => 309 | 169 => 310 | 240 => 316 | 241 => 317 | 276 => 319 | 277 => 320 | n => n, fun | 31 => 22 | 9 => 9 | 3 => 3 | 4 => 4 | 0 => 0 | 20 => 20 | 72 => 319 | 76 => 322 | 70 => 317 | 37 => 161 | 75 => 321 | 127 => 304 | 164 => 329 | 5 => 5 | 80 => 31 | n => n, fun | n => n⟩
theorem Tryz.lays156 : Go.Proofs.Lays.n156 Tryz.prog Tryz.lays156_ren := {
 mixed := by kernel_rfl
 f156 := Tryz.func301.trans (congrArg some (by kernel_rfl))
 f165 := Tryz.func308.trans (congrArg some (by kernel_rfl))
 f166 := Tryz.func309.trans (congrArg some (by kernel_rfl))
 f169 := Tryz.func310.trans (congrArg some (by kernel_rfl))
 f240 := Tryz.func316.trans (congrArg some (by kernel_rfl))
 f241 := Tryz.func317.trans (congrArg some (by kernel_rfl))
 f276 := Tryz.func319.trans (congrArg some (by kernel_rfl))
 f277 := Tryz.func320.trans (congrArg some (by kernel_rfl))
 t0 := Tryz.underlying0
 a0 := Tryz.isAgg0
 z0 := Tryz.sizeOf0
 v0 := Tryz.zeroValue0
 t3 := Tryz.underlying3
 a3 := Tryz.isAgg3
 z3 := Tryz.sizeOf3
 v3 := Tryz.zeroValue3
 t4 := Tryz.underlying4
 a4 := Tryz.isAgg4
 z4 := Tryz.sizeOf4
 v4 := Tryz.zeroValue4
 t9 := Tryz.underlying9
 a9 := Tryz.isAgg9
 z9 := Tryz.sizeOf9
 v9 := Tryz.zeroValue9
 t20 := Tryz.underlying20
 a20 := Tryz.isAgg20
 z20 := Tryz.sizeOf20
 v20 := Tryz.zeroValue20
 t31 := Tryz.underlying22
 a31 := Tryz.isAgg22
 z31 := Tryz.sizeOf22
 v31 := Tryz.zeroValue22
 t37 := Tryz.underlying161
 a37 := Tryz.isAgg161
 z37 := Tryz.sizeOf161
 v37 := Tryz.zeroValue161
 t70 := Tryz.underlying317
 a70 := Tryz.isAgg317
 z70 := Tryz.sizeOf317
 v70 := Tryz.zeroValue317
 t72 := Tryz.underlying319
 a72 := Tryz.isAgg319
 z72 := Tryz.sizeOf319
 v72 := Tryz.zeroValue319
 t75 := Tryz.underlying321
 a75 := Tryz.isAgg321
 z75 := Tryz.sizeOf321
 v75 := Tryz.zeroValue321
 t76 := Tryz.underlying322
 a76 := Tryz.isAgg322
 z76 := Tryz.sizeOf322
 v76 := Tryz.zeroValue322
 t127 := Tryz.underlying304
 a127 := Tryz.isAgg304
 z127 := Tryz.sizeOf304
 v127 := Tryz.zeroValue304
 t164 := Tryz.underlying329
 a164 := Tryz.isAgg329
 z164 := Tryz.sizeOf329
 v164 := Tryz.zeroValue329 }
theorem Tryz.Builder_Extra_156 : Builder.Extra Tryz.prog Tryz.lays156_ren := {
 sizeBuilder := by kernel_rfl
 liesBuilder := by kernel_rfl
 t5 := Tryz.underlying5
 a5 := Tryz.isAgg5
 z5 := Tryz.sizeOf5
 v5 := Tryz.zeroValue5
 infoByte := by kernel_rfl
 cellsByte := by kernel_rfl
 sizeByte := by kernel_rfl
 neB5 := by decide }
open Go.RowKit in
/-- No element: the empty string; the world is as it was. (Whatever the slice's address and capacity: a nil slice too.) (LAID: no walk: one application.) -/
theorem Tryz.strings_Join_none (a : Option Addr) (c : Nat) (sep : ByteArray) (w : World) :
  Calls Tryz.prog 301 #[.slice a 0 c, .string sep] w fun e w' => e = .returned (.string ⟨#[]⟩) ∧ w' = w := Any.strings_Join_none Tryz.lays156 Tryz.Builder_Extra_156 a c sep w
open Go.RowKit in
/-- strings.Join: "Join concatenates the elements of its first argument to create a single string. The separator string sep is placed between elements in the resulting string.": HOWEVER MANY ELEMENTS. Below the heap's end the world is as it was. (LAID: no walk: one application.) -/
theorem Tryz.strings_Join (bk o c : Nat) (xs : List ByteArray) (sep : ByteArray) (w : World) (hcells : ∀ (j : Nat) x, xs[j]? = some x → w.cell? ⟨bk, o + j, none⟩ = some (.string x)) (hbk : bk < w.heap.size) (hN : xs.length ≤ 140737488355328) (hcap : xs.length ≤ c) (hlen : (Lib.join (xs.map (·.data.toList)) sep.data.toList).length ≤ 140737488355328) :
  Calls Tryz.prog 301 #[.slice (some ⟨bk, o, none⟩) xs.length c, .string sep] w fun e w' => e = .returned (.string ⟨(Lib.join (xs.map (·.data.toList)) sep.data.toList).toArray⟩) ∧ Below w.heap.size w w' := Any.strings_Join Tryz.lays156 Tryz.Builder_Extra_156 bk o c xs sep w hcells hbk hN hcap hlen
def Tryz.lays171_ren : Go.Shelf.Ren := ⟨fun | 171 => 303 | 243 => 311 | 246 => 318 | 283 => 321 | 284 => 322 | 285 => 323 | 286 => 324 | 129 => 326 | 317 => 325 | 318 => 327 | 319 => 328 | 320 => 329 | 337 => 330 | 338 => 331 | n => n, fun | 3 => 3 | 9 => 9 | 2 => 2 | 4 => 4 | 171 => 332 | 0 => 0 | 53 => 40 | 37 => 161 | 5 => 5 | 173 => 335 | 212 => 338 | 51 => 300 | 20 => 20 | 213 => 339 | 46 => 174 | 232 => 342 | 233 => 343 | n => n, fun | 17 => 1 | 18 => 2 | 19 => 3 | n => n⟩
theorem Tryz.lays171 : Go.Proofs.Lays.n171 Tryz.prog Tryz.lays171_ren := {
 mixed := by kernel_rfl
 f129 := Tryz.func326.trans (congrArg some (by kernel_rfl))
 f171 := Tryz.func303.trans (congrArg some (by kernel_rfl))
 f243 := Tryz.func311.trans (congrArg some (by kernel_rfl))
 f246 := Tryz.func318.trans (congrArg some (by kernel_rfl))
 f283 := Tryz.func321.trans (congrArg some (by kernel_rfl))
 f284 := Tryz.func322.trans (congrArg some (by kernel_rfl))
 f285 := Tryz.func323.trans (congrArg some (by kernel_rfl))
 f286 := Tryz.func324.trans (congrArg some (by kernel_rfl))
 f317 := Tryz.func325.trans (congrArg some (by kernel_rfl))
 f318 := Tryz.func327.trans (congrArg some (by kernel_rfl))
 f319 := Tryz.func328.trans (congrArg some (by kernel_rfl))
 f320 := Tryz.func329.trans (congrArg some (by kernel_rfl))
 f337 := Tryz.func330.trans (congrArg some (by kernel_rfl))
 f338 := Tryz.func331.trans (congrArg some (by kernel_rfl))
 t0 := Tryz.underlying0
 a0 := Tryz.isAgg0
 z0 := Tryz.sizeOf0
 v0 := Tryz.zeroValue0
 t2 := Tryz.underlying2
 a2 := Tryz.isAgg2
 z2 := Tryz.sizeOf2
 v2 := Tryz.zeroValue2
 t3 := Tryz.underlying3
 a3 := Tryz.isAgg3
 z3 := Tryz.sizeOf3
 v3 := Tryz.zeroValue3
 t4 := Tryz.underlying4
 a4 := Tryz.isAgg4
 z4 := Tryz.sizeOf4
 v4 := Tryz.zeroValue4
 t5 := Tryz.underlying5
 a5 := Tryz.isAgg5
 z5 := Tryz.sizeOf5
 v5 := Tryz.zeroValue5
 t9 := Tryz.underlying9
 a9 := Tryz.isAgg9
 z9 := Tryz.sizeOf9
 v9 := Tryz.zeroValue9
 t20 := Tryz.underlying20
 a20 := Tryz.isAgg20
 z20 := Tryz.sizeOf20
 v20 := Tryz.zeroValue20
 t37 := Tryz.underlying161
 a37 := Tryz.isAgg161
 z37 := Tryz.sizeOf161
 v37 := Tryz.zeroValue161
 t46 := Tryz.underlying174
 a46 := Tryz.isAgg174
 z46 := Tryz.sizeOf174
 v46 := Tryz.zeroValue174
 t51 := Tryz.underlying300
 a51 := Tryz.isAgg300
 z51 := Tryz.sizeOf300
 v51 := Tryz.zeroValue300
 t53 := Tryz.underlying40
 a53 := Tryz.isAgg40
 z53 := Tryz.sizeOf40
 v53 := Tryz.zeroValue40
 t171 := Tryz.underlying332
 a171 := Tryz.isAgg332
 z171 := Tryz.sizeOf332
 v171 := Tryz.zeroValue332
 t173 := Tryz.underlying335
 a173 := Tryz.isAgg335
 z173 := Tryz.sizeOf335
 v173 := Tryz.zeroValue335
 t212 := Tryz.underlying338
 a212 := Tryz.isAgg338
 z212 := Tryz.sizeOf338
 v212 := Tryz.zeroValue338
 t213 := Tryz.underlying339
 a213 := Tryz.isAgg339
 z213 := Tryz.sizeOf339
 t232 := Tryz.underlying342
 a232 := Tryz.isAgg342
 z232 := Tryz.sizeOf342
 v232 := Tryz.zeroValue342
 t233 := Tryz.underlying343
 a233 := Tryz.isAgg343
 z233 := Tryz.sizeOf343
 v233 := Tryz.zeroValue343
 g17 := by kernel_rfl
 g18 := by kernel_rfl
 g19 := by kernel_rfl }
open Go.RowKit Go.Sort Go.Lib in
/-- THE ROAD WITHOUT THE TABLE: 0 <= i < 100: NO PREMISE ON THE WORLD, AND THE WORLD IS AS IT WAS: a row that keeps its argument in that range need list no table ('laid = []'). (LAID: no walk: one application.) -/
theorem Tryz.strconv_Itoa_small (i : Nat) (hi : i < 100) (w : World) :
  Calls Tryz.prog 303 #[.int .i64 i] w fun e w' => e = .returned (.string ⟨(Lib.decDigits i).toArray⟩) ∧ w' = w := Any.strconv_Itoa_small Tryz.lays171 i hi w
end Go.Proofs
set_option linter.unusedVariables false
set_option linter.unusedSimpArgs false
namespace Go.Proofs.YtfeicmpbfbhiiaaGreat
open Go.RowKit
attribute [local go_sem ↓] Go.wp_at_zero Go.wp_at_succ
def joinB (l : List ByteArray) (sep : ByteArray) : ByteArray := ⟨(Lib.join (l.map (·.data.toList)) sep.data.toList).toArray⟩
/-- Keys whose lengths are bounded. -/
def Short (N : Nat) (l : List ByteArray) : Prop := ∀ k, k ∈ l → k.size ≤ N
theorem lens_le {N : Nat} : ∀ {l : List ByteArray}, Short N l → Lib.lens (l.map (·.data.toList)) ≤ N * l.length
 | [], _ => by simp [Lib.lens]
 | x :: r, h => by
  have h1 := lens_le (l := r) fun k hk => h k (by simp [hk])
  have h2 := h x (by simp)
  rw [Lib.size_eq] at h2
  simp only [Lib.lens, List.map_cons, List.sum_cons, List.length_cons, Nat.mul_succ] at h1 ⊢
  omega
theorem join_le {N : Nat} {l : List ByteArray} (h : Short N l) {sep : ByteArray} (hs : sep.size = 1) : (Lib.join (l.map (·.data.toList)) sep.data.toList).length ≤ N * l.length + l.length := by
 cases l with
 | nil => simp [Lib.join]
 | cons x r =>
  have h1 := lens_le h
  rw [List.map_cons] at h1 ⊢
  rw [Lib.join_length, List.length_map, ← Lib.size_eq, hs]
  simp only [List.length_cons] at h1 ⊢
  omega
theorem sjoin {w : World} {v : Value} {l : List ByteArray} {N : Nat} (h : SS w v l) (hl : N * l.length + l.length ≤ 140737488355328) (hs : Short N l) (sep : ByteArray) (hp : sep.size = 1) :
  Calls Tryz.prog 301 #[v, .string sep] w fun en w' => en = .returned (.string (joinB l sep)) ∧ Fr [] w w' := by
 have hlen := Nat.le_trans (join_le hs hp) hl
 by_cases h0 : l = []
 ·subst h0
  obtain ⟨a, c, rfl⟩ := h.form
  refine (Tryz.strings_Join_none a c sep w).mono ?_
  rintro en w' ⟨rfl, rfl⟩
  exact ⟨rfl, Fr.refl _ _⟩
 ·have hpos : 0 < l.length := List.length_pos_iff.2 h0
  have hh := h
  rcases hh.2 with ⟨_, hz⟩ | ⟨g, off, cap, cur, rfl, hg, hc, _⟩
  ·omega
  ·refine (Tryz.strings_Join g off cap l sep w (fun j x hx => Sl.cell h (by simp [hx])) (lt_of_block hg) (by omega) hc hlen).mono ?_
   rintro en w' ⟨rfl, hb⟩
   exact ⟨rfl, Fr.ofBelow hb⟩
theorem join_size {N : Nat} {l : List ByteArray} (h : Short N l) {sep : ByteArray} (hs : sep.size = 1) : (joinB l sep).size ≤ N * l.length + l.length := by
 rw [Lib.size_eq]; exact join_le h hs
theorem Short.cons {N : Nat} {l : List ByteArray} {k : ByteArray} (hk : k.size ≤ N) (h : Short N l) : Short N (k :: l) := fun x hx => by
 rcases List.mem_cons.1 hx with rfl | e
 ·exact hk
 ·exact h x e
theorem Short.nil {N : Nat} : Short N [] := fun x hx => by cases hx
/-- A row of keys as a text. -/
def textB (name : ByteArray) (l : List ByteArray) : ByteArray := name ++ ⟨#[58]⟩ ++ joinB (⟨#[]⟩ :: l) ⟨#[32]⟩
theorem text_size {name : ByteArray} (hn : name.size ≤ 100) {l : List ByteArray} (h : Short 10000 l) (hl : l.length ≤ 5000) : (textB name l).size ≤ 100000000 := by
 have := join_size (sep := ⟨#[32]⟩) (h.cons (k := ⟨#[]⟩) (by decide)) rfl
 simp only [List.length_cons] at this
 unfold textB
 rw [ByteArray.size_append, ByteArray.size_append]
 have e : (⟨#[58]⟩ : ByteArray).size = 1 := rfl
 omega
set_option maxRecDepth 100000 in
theorem textA {w : World} {v : Value} {l : List ByteArray} (h : SS w v l) (hl : l.length ≤ 5000) (hs : Short 10000 l) (name : ByteArray) (hnm : name.size ≤ 100) :
  Calls Tryz.prog 302 #[.string name, v] w fun en w' => en = .returned (.string (textB name l)) ∧ Fr [] w w' := by
 have H := Lib.hid h
 have HJ := Lib.hid fun W b n c (h : SS W (.slice b n c) (⟨#[]⟩ :: l)) => sjoin h (by simp only [List.length_cons]; omega) (hs.cons (k := ⟨#[]⟩) (by decide)) ⟨#[32]⟩ rfl
 have hv := h.form
 obtain ⟨a, c, hv⟩ := hv
 obtain ⟨n, hn⟩ : ∃ n, l.length = n := ⟨_, rfl⟩
 rw [hn] at hv
 have HV := Lib.hid hv
 have hJs : (joinB (⟨#[]⟩ :: l) ⟨#[32]⟩).size ≤ 140737488355328 := by have h2 := join_size (sep := ⟨#[32]⟩) (hs.cons (k := ⟨#[]⟩) (by decide)) rfl; simp only [List.length_cons] at h2; omega
 unfold textB
 obtain ⟨J, hJ⟩ : ∃ j, joinB (⟨#[]⟩ :: l) ⟨#[32]⟩ = j := ⟨_, rfl⟩
 rw [hJ] at HJ hJs ⊢
 have q1 : ¬ 9223372036854775807 < name.size + 1 := by omega
 have q2 : ¬ 9223372036854775807 < name.size + 1 + J.size := by omega
 subst hv
 clear h hs hJ hn
 go_enter Tryz.func302, Tryz.ntmps302
 go_wp2_with (at_builtin; refine app_list rfl _ _ rfl (.slice (some ⟨w.heap.size, 0, none⟩) 1 1) (.slice a n c) [⟨#[]⟩] l rfl rfl ?hsl ?src ?hb ?_)
 case hsl => exact SS.one w ⟨#[]⟩
 case src => exact SS.src (H.out.fr ((Fr.refl [] w).alloc _) (fun _ _ => by simp))
 case hb => show 1 + l.length ≤ 1000000; omega
 intro b' n' c' w2 hn' happ
 have hf : Fr [] w w2 := (Fr.refl [] w).alloc _ |>.fresh happ.2.1 (by intro q hq; simp [Value.ownBlock] at hq; omega)
 have HAP := Lib.hid (And.intro happ.1 hf)
 clear happ hf hn'
 go_wp2_with fail
 refine (HJ.out _ _ _ _ HAP.out.1).mono ?_
 rintro en w3 ⟨rfl, f3⟩
 have F3 := HAP.out.2.same f3
 clear f3
 go_wp2
 go_ret
 exact ⟨rfl, F3⟩
set_option maxRecDepth 100000 in
theorem textQ {w : World} {v : Value} {l : List ByteArray} (h : SS w v l) (hl : l.length ≤ 5000) (hs : Short 10000 l) (name : ByteArray) (hnm : name.size ≤ 100) :
  Calls Tryz.prog 378 #[.string name, v] w fun en w' => en = .returned (.string (textB name l)) ∧ Fr [] w w' := by
 have H := Lib.hid h
 have HJ := Lib.hid fun W b n c (h : SS W (.slice b n c) (⟨#[]⟩ :: l)) => sjoin h (by simp only [List.length_cons]; omega) (hs.cons (k := ⟨#[]⟩) (by decide)) ⟨#[32]⟩ rfl
 have hv := h.form
 obtain ⟨a, c, hv⟩ := hv
 obtain ⟨n, hn⟩ : ∃ n, l.length = n := ⟨_, rfl⟩
 rw [hn] at hv
 have HV := Lib.hid hv
 have hJs : (joinB (⟨#[]⟩ :: l) ⟨#[32]⟩).size ≤ 140737488355328 := by have h2 := join_size (sep := ⟨#[32]⟩) (hs.cons (k := ⟨#[]⟩) (by decide)) rfl; simp only [List.length_cons] at h2; omega
 unfold textB
 obtain ⟨J, hJ⟩ : ∃ j, joinB (⟨#[]⟩ :: l) ⟨#[32]⟩ = j := ⟨_, rfl⟩
 rw [hJ] at HJ hJs ⊢
 have q1 : ¬ 9223372036854775807 < name.size + 1 := by omega
 have q2 : ¬ 9223372036854775807 < name.size + 1 + J.size := by omega
 subst hv
 clear h hs hJ hn
 go_enter Tryz.func378, Tryz.ntmps378
 go_wp2_with (at_builtin; refine app_list rfl _ _ rfl (.slice (some ⟨w.heap.size, 0, none⟩) 1 1) (.slice a n c) [⟨#[]⟩] l rfl rfl ?hsl ?src ?hb ?_)
 case hsl => exact SS.one w ⟨#[]⟩
 case src => exact SS.src (H.out.fr ((Fr.refl [] w).alloc _) (fun _ _ => by simp))
 case hb => show 1 + l.length ≤ 1000000; omega
 intro b' n' c' w2 hn' happ
 have hf : Fr [] w w2 := (Fr.refl [] w).alloc _ |>.fresh happ.2.1 (by intro q hq; simp [Value.ownBlock] at hq; omega)
 have HAP := Lib.hid (And.intro happ.1 hf)
 clear happ hf hn'
 go_wp2_with fail
 refine (HJ.out _ _ _ _ HAP.out.1).mono ?_
 rintro en w3 ⟨rfl, f3⟩
 have F3 := HAP.out.2.same f3
 clear f3
 go_wp2
 go_ret
 exact ⟨rfl, F3⟩
end Go.Proofs.YtfeicmpbfbhiiaaGreat
