/- The kit's contracts of strings.Join and strconv.Itoa at this seat (written by the kit's lay-plain.mjs through wip/layshelf.py: numbers of this seat). -/
import Derived.Shelf.Strings.OnBuilder
import Derived.Shelf.Strconv.Itoa3
import Derived.Test.YtphlancijlljcaaGreatProg
namespace Go.Proofs
open Go.Shelf
def Tryz.lays156_ren : Go.Shelf.Ren := ⟨fun | 156 => 309 | 165 => 315 | 166 => 316 | 169 => 317 | 240 => 322 | 241 => 323 | 276 => 325 | 277 => 326 | n => n, fun | 31 => 22 | 9 => 9 | 3 => 3 | 4 => 4 | 0 => 0 | 20 => 20 | 72 => 317 | 76 => 320 | 70 => 315 | 37 => 177 | 75 => 319 | 127 => 302 | 164 => 327 | 5 => 5 | 80 => 53 | n => n, fun | n => n⟩
theorem Tryz.lays156 : Go.Proofs.Lays.n156 Tryz.prog Tryz.lays156_ren := {
 mixed := by kernel_rfl
 f156 := Tryz.func309.trans (congrArg some (by kernel_rfl))
 f165 := Tryz.func315.trans (congrArg some (by kernel_rfl))
 f166 := Tryz.func316.trans (congrArg some (by kernel_rfl))
 f169 := Tryz.func317.trans (congrArg some (by kernel_rfl))
 f240 := Tryz.func322.trans (congrArg some (by kernel_rfl))
 f241 := Tryz.func323.trans (congrArg some (by kernel_rfl))
 f276 := Tryz.func325.trans (congrArg some (by kernel_rfl))
 f277 := Tryz.func326.trans (congrArg some (by kernel_rfl))
 t0 := Tryz.underlying0
 a0 := Tryz.isAgg0
 z0 := Tryz.sizeOf0
 v0 := Tryz.zeroValue0
 t3 := Tryz.underlying3
 a3 := Tryz.isAgg3
 z3 := Tryz.sizeOf3
 v3 := Tryz.zeroValue3
 t4 := Tryz.underlying4
 a4 := Tryz.isAgg4
 z4 := Tryz.sizeOf4
 v4 := Tryz.zeroValue4
 t9 := Tryz.underlying9
 a9 := Tryz.isAgg9
 z9 := Tryz.sizeOf9
 v9 := Tryz.zeroValue9
 t20 := Tryz.underlying20
 a20 := Tryz.isAgg20
 z20 := Tryz.sizeOf20
 v20 := Tryz.zeroValue20
 t31 := Tryz.underlying22
 a31 := Tryz.isAgg22
 z31 := Tryz.sizeOf22
 v31 := Tryz.zeroValue22
 t37 := Tryz.underlying177
 a37 := Tryz.isAgg177
 z37 := Tryz.sizeOf177
 v37 := Tryz.zeroValue177
 t70 := Tryz.underlying315
 a70 := Tryz.isAgg315
 z70 := Tryz.sizeOf315
 v70 := Tryz.zeroValue315
 t72 := Tryz.underlying317
 a72 := Tryz.isAgg317
 z72 := Tryz.sizeOf317
 v72 := Tryz.zeroValue317
 t75 := Tryz.underlying319
 a75 := Tryz.isAgg319
 z75 := Tryz.sizeOf319
 v75 := Tryz.zeroValue319
 t76 := Tryz.underlying320
 a76 := Tryz.isAgg320
 z76 := Tryz.sizeOf320
 v76 := Tryz.zeroValue320
 t127 := Tryz.underlying302
 a127 := Tryz.isAgg302
 z127 := Tryz.sizeOf302
 v127 := Tryz.zeroValue302
 t164 := Tryz.underlying327
 a164 := Tryz.isAgg327
 z164 := Tryz.sizeOf327
 v164 := Tryz.zeroValue327 }
theorem Tryz.Builder_Extra_156 : Builder.Extra Tryz.prog Tryz.lays156_ren := {
 sizeBuilder := by kernel_rfl
 liesBuilder := by kernel_rfl
 t5 := Tryz.underlying5
 a5 := Tryz.isAgg5
 z5 := Tryz.sizeOf5
 v5 := Tryz.zeroValue5
 infoByte := by kernel_rfl
 cellsByte := by kernel_rfl
 sizeByte := by kernel_rfl
 neB5 := by decide }
open Go.RowKit in
theorem Tryz.strings_Join_none (a : Option Addr) (c : Nat) (sep : ByteArray) (w : World) :
  Calls Tryz.prog 309 #[.slice a 0 c, .string sep] w fun e w' => e = .returned (.string ⟨#[]⟩) ∧ w' = w := Any.strings_Join_none Tryz.lays156 Tryz.Builder_Extra_156 a c sep w
open Go.RowKit in
theorem Tryz.strings_Join (bk o c : Nat) (xs : List ByteArray) (sep : ByteArray) (w : World) (hcells : ∀ (j : Nat) x, xs[j]? = some x → w.cell? ⟨bk, o + j, none⟩ = some (.string x)) (hbk : bk < w.heap.size) (hN : xs.length ≤ 140737488355328) (hcap : xs.length ≤ c) (hlen : (Lib.join (xs.map (·.data.toList)) sep.data.toList).length ≤ 140737488355328) :
  Calls Tryz.prog 309 #[.slice (some ⟨bk, o, none⟩) xs.length c, .string sep] w fun e w' => e = .returned (.string ⟨(Lib.join (xs.map (·.data.toList)) sep.data.toList).toArray⟩) ∧ Below w.heap.size w w' := Any.strings_Join Tryz.lays156 Tryz.Builder_Extra_156 bk o c xs sep w hcells hbk hN hcap hlen
def Tryz.lays171_ren : Go.Shelf.Ren := ⟨fun | 171 => 311 | 243 => 318 | 246 => 324 | 283 => 327 | 284 => 328 | 285 => 329 | 286 => 330 | 129 => 332 | 317 => 331 | 318 => 333 | 319 => 334 | 320 => 335 | 337 => 336 | 338 => 337 | n => n, fun | 3 => 3 | 9 => 9 | 2 => 2 | 4 => 4 | 171 => 330 | 0 => 0 | 53 => 56 | 37 => 177 | 5 => 5 | 173 => 333 | 212 => 336 | 51 => 298 | 20 => 20 | 213 => 337 | 46 => 188 | 232 => 340 | 233 => 341 | n => n, fun | 17 => 1 | 18 => 2 | 19 => 3 | n => n⟩
theorem Tryz.lays171 : Go.Proofs.Lays.n171 Tryz.prog Tryz.lays171_ren := {
 mixed := by kernel_rfl
 f129 := Tryz.func332.trans (congrArg some (by kernel_rfl))
 f171 := Tryz.func311.trans (congrArg some (by kernel_rfl))
 f243 := Tryz.func318.trans (congrArg some (by kernel_rfl))
 f246 := Tryz.func324.trans (congrArg some (by kernel_rfl))
 f283 := Tryz.func327.trans (congrArg some (by kernel_rfl))
 f284 := Tryz.func328.trans (congrArg some (by kernel_rfl))
 f285 := Tryz.func329.trans (congrArg some (by kernel_rfl))
 f286 := Tryz.func330.trans (congrArg some (by kernel_rfl))
 f317 := Tryz.func331.trans (congrArg some (by kernel_rfl))
 f318 := Tryz.func333.trans (congrArg some (by kernel_rfl))
 f319 := Tryz.func334.trans (congrArg some (by kernel_rfl))
 f320 := Tryz.func335.trans (congrArg some (by kernel_rfl))
 f337 := Tryz.func336.trans (congrArg some (by kernel_rfl))
 f338 := Tryz.func337.trans (congrArg some (by kernel_rfl))
 t0 := Tryz.underlying0
 a0 := Tryz.isAgg0
 z0 := Tryz.sizeOf0
 v0 := Tryz.zeroValue0
 t2 := Tryz.underlying2
 a2 := Tryz.isAgg2
 z2 := Tryz.sizeOf2
 v2 := Tryz.zeroValue2
 t3 := Tryz.underlying3
 a3 := Tryz.isAgg3
 z3 := Tryz.sizeOf3
 v3 := Tryz.zeroValue3
 t4 := Tryz.underlying4
 a4 := Tryz.isAgg4
 z4 := Tryz.sizeOf4
 v4 := Tryz.zeroValue4
 t5 := Tryz.underlying5
 a5 := Tryz.isAgg5
 z5 := Tryz.sizeOf5
 v5 := Tryz.zeroValue5
 t9 := Tryz.underlying9
 a9 := Tryz.isAgg9
 z9 := Tryz.sizeOf9
 v9 := Tryz.zeroValue9
 t20 := Tryz.underlying20
 a20 := Tryz.isAgg20
 z20 := Tryz.sizeOf20
 v20 := Tryz.zeroValue20
 t37 := Tryz.underlying177
 a37 := Tryz.isAgg177
 z37 := Tryz.sizeOf177
 v37 := Tryz.zeroValue177
 t46 := Tryz.underlying188
 a46 := Tryz.isAgg188
 z46 := Tryz.sizeOf188
 v46 := Tryz.zeroValue188
 t51 := Tryz.underlying298
 a51 := Tryz.isAgg298
 z51 := Tryz.sizeOf298
 v51 := Tryz.zeroValue298
 t53 := Tryz.underlying56
 a53 := Tryz.isAgg56
 z53 := Tryz.sizeOf56
 v53 := Tryz.zeroValue56
 t171 := Tryz.underlying330
 a171 := Tryz.isAgg330
 z171 := Tryz.sizeOf330
 v171 := Tryz.zeroValue330
 t173 := Tryz.underlying333
 a173 := Tryz.isAgg333
 z173 := Tryz.sizeOf333
 v173 := Tryz.zeroValue333
 t212 := Tryz.underlying336
 a212 := Tryz.isAgg336
 z212 := Tryz.sizeOf336
 v212 := Tryz.zeroValue336
 t213 := Tryz.underlying337
 a213 := Tryz.isAgg337
 z213 := Tryz.sizeOf337
 t232 := Tryz.underlying340
 a232 := Tryz.isAgg340
 z232 := Tryz.sizeOf340
 v232 := Tryz.zeroValue340
 t233 := Tryz.underlying341
 a233 := Tryz.isAgg341
 z233 := Tryz.sizeOf341
 v233 := Tryz.zeroValue341
 g17 := by kernel_rfl
 g18 := by kernel_rfl
 g19 := by kernel_rfl }
open Go.RowKit Go.Sort Go.Lib in
theorem Tryz.strconv_Itoa_small (i : Nat) (hi : i < 100) (w : World) :
  Calls Tryz.prog 311 #[.int .i64 i] w fun e w' => e = .returned (.string ⟨(Lib.decDigits i).toArray⟩) ∧ w' = w := Any.strconv_Itoa_small Tryz.lays171 i hi w
end Go.Proofs
