/- The shelf's structure of slices.SortFunc, laid at triples. -/
import Derived.Test.YtommohepbpdmdaaChecked
import Derived.Shelf.SlSortCmp.NoneTotal
namespace Go.Proofs.Ytommohepbpdmdaa
open Go.Shelf Go.Proofs
set_option maxRecDepth 100000

def sortTr_ren : Go.Shelf.Ren := ⟨fun | 6 => 117 | 15 => 121 | 14 => 138 | 28 => 151 | 29 => 152 | 20 => 163 | 21 => 164 | 22 => 165 | 23 => 166 | 24 => 167 | 25 => 168 | 26 => 169 | 27 => 170 | 46 => 192 | 47 => 174 | 48 => 175 | 49 => 193 | 50 => 194 | 57 => 210 | n => n, fun | 22 => 32 | 24 => 39 | 25 => 99 | 3 => 3 | 39 => 155 | 0 => 0 | 53 => 168 | 55 => 231 | 4 => 4 | 46 => 224 | 45 => 223 | 50 => 215 | 5 => 5 | 9 => 9 | 66 => 257 | 70 => 261 | 76 => 285 | 77 => 286 | n => n, fun | n => n⟩
theorem sortTr : Go.Proofs.SlLaysF0.n6 Try.prog sortTr_ren := {
  mixed := by kernel_rfl
  f6 := ⟨Try.f117.name, by decide, Try.func117.trans (congrArg some (by kernel_rfl))⟩
  f14 := ⟨Try.f138.name, by decide, Try.func138.trans (congrArg some (by kernel_rfl))⟩
  f15 := Try.func121.trans (congrArg some (by kernel_rfl))
  f20 := ⟨Try.f163.name, by decide, Try.func163.trans (congrArg some (by kernel_rfl))⟩
  f21 := ⟨Try.f164.name, by decide, Try.func164.trans (congrArg some (by kernel_rfl))⟩
  f22 := ⟨Try.f165.name, by decide, Try.func165.trans (congrArg some (by kernel_rfl))⟩
  f23 := ⟨Try.f166.name, by decide, Try.func166.trans (congrArg some (by kernel_rfl))⟩
  f24 := ⟨Try.f167.name, by decide, Try.func167.trans (congrArg some (by kernel_rfl))⟩
  f25 := ⟨Try.f168.name, by decide, Try.func168.trans (congrArg some (by kernel_rfl))⟩
  f26 := ⟨Try.f169.name, by decide, Try.func169.trans (congrArg some (by kernel_rfl))⟩
  f27 := ⟨Try.f170.name, by decide, Try.func170.trans (congrArg some (by kernel_rfl))⟩
  f28 := Try.func151.trans (congrArg some (by kernel_rfl))
  f29 := Try.func152.trans (congrArg some (by kernel_rfl))
  f46 := ⟨Try.f192.name, by decide, Try.func192.trans (congrArg some (by kernel_rfl))⟩
  f47 := Try.func174.trans (congrArg some (by kernel_rfl))
  f48 := Try.func175.trans (congrArg some (by kernel_rfl))
  f49 := ⟨Try.f193.name, by decide, Try.func193.trans (congrArg some (by kernel_rfl))⟩
  f50 := ⟨Try.f194.name, by decide, Try.func194.trans (congrArg some (by kernel_rfl))⟩
  f57 := ⟨Try.f210.name, by decide, Try.func210.trans (congrArg some (by kernel_rfl))⟩
  t0 := Try.underlying0
  a0 := Try.isAgg0
  z0 := Try.sizeOf0
  v0 := Try.zeroValue0
  t3 := Try.underlying3
  a3 := Try.isAgg3
  z3 := Try.sizeOf3
  v3 := Try.zeroValue3
  t4 := Try.underlying4
  a4 := Try.isAgg4
  z4 := Try.sizeOf4
  v4 := Try.zeroValue4
  t5 := Try.underlying5
  a5 := Try.isAgg5
  z5 := Try.sizeOf5
  v5 := Try.zeroValue5
  t9 := Try.underlying9
  a9 := Try.isAgg9
  z9 := Try.sizeOf9
  v9 := Try.zeroValue9
  t22 := Try.underlying32
  a22 := Try.isAgg32
  z22 := Try.sizeOf32
  v22 := Try.zeroValue32
  t25 := Try.underlying99
  a25 := Try.isAgg99
  z25 := Try.sizeOf99
  v25 := Try.zeroValue99
  t39 := Try.underlying155
  a39 := Try.isAgg155
  z39 := Try.sizeOf155
  v39 := Try.zeroValue155
  t45 := Try.underlying223
  a45 := Try.isAgg223
  z45 := Try.sizeOf223
  v45 := Try.zeroValue223
  t46 := Try.underlying224
  a46 := Try.isAgg224
  z46 := Try.sizeOf224
  v46 := Try.zeroValue224
  t50 := Try.underlying215
  a50 := Try.isAgg215
  z50 := Try.sizeOf215
  v50 := Try.zeroValue215
  t53 := Try.underlying168
  a53 := Try.isAgg168
  z53 := Try.sizeOf168
  v53 := Try.zeroValue168
  t55 := Try.underlying231
  a55 := Try.isAgg231
  z55 := Try.sizeOf231
  v55 := Try.zeroValue231
  t66 := Try.underlying257
  a66 := Try.isAgg257
  z66 := Try.sizeOf257
  v66 := Try.zeroValue257
  t70 := Try.underlying261
  a70 := Try.isAgg261
  z70 := Try.sizeOf261
  v70 := Try.zeroValue261
  t76 := Try.underlying285
  a76 := Try.isAgg285
  z76 := Try.sizeOf285
  v76 := Try.zeroValue285
  t77 := Try.underlying286
  a77 := Try.isAgg286
  z77 := Try.sizeOf286
  v77 := Try.zeroValue286 }
end Go.Proofs.Ytommohepbpdmdaa
