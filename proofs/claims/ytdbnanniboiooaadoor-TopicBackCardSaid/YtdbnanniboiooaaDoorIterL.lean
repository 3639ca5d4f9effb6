/-
  DERIVED: THE SHELF's CONTRACTS AT THIS DUMP, IN PLAIN WORDS (tools/lay-plain.mjs out of 'YtdbnanniboiooaaDoorIterLTry.lean', which tools/lay-shelf.mjs wrote): THE SAME DECLARATIONS UNDER THE SAME NAMES: 'import', 'namespace', 'open', 'def', 'theorem' AND NOTHING ELSE: no command of the shelf's: FOR A HAND-IN. Each laying: the table of numbers ('.._ren') and one theorem, a field a fact of the dump's own or the kernel's comparison; each contract: ONE APPLICATION.
-/
import Derived.Shelf.SlGeneric
import Derived.Shelf.Strings.Builder1
import Derived.Shelf.Strings.Builder2
import Derived.Shelf.Small.Bits
import Derived.Shelf.Small.Strs
import Derived.Shelf.Strings.BuilderF
import Derived.Shelf.Strconv.Itoa0
import Derived.Shelf.Strings.Search1
import Derived.Shelf.Strings.Search2
import Derived.Shelf.Strings.Cut
import Derived.Shelf.LaysM
import Derived.Shelf.Strings.Shaped
import Derived.Shelf.Sort.Plain
import Derived.Shelf.GgClosure.StringsIndexFunc
import Derived.Ground.GgwProg
import Derived.Shelf.GgClosure.StringsIndexFuncTop
import Derived.Shelf.Strings.Prefix
import Derived.Shelf.Bits.Mul64
import Derived.Shelf.Strings.Repeat
import Derived.Shelf.SlIter.Nil
import Derived.Shelf.SortM.Plain
import Derived.Shelf.SortM.SortNone
import Derived.Ground.GgzProg
import Derived.Ground.SlgmProg
import Derived.Test.YtdbnanniboiooaaDoorProg
namespace Go.Proofs
open Go.Shelf
def Tryd.keys42_ren : Go.Shelf.Ren := ⟨fun | 7 => 42 | 10 => 66 | n => n, fun | 23 => 80 | 26 => 9 | 3 => 93 | 28 => 106 | 0 => 0 | 27 => 105 | 33 => 60 | 4 => 4 | n => n, fun | n => n⟩
theorem Tryd.keys42 : Go.Proofs.SlLaysZ.n7 Tryd.prog Tryd.keys42_ren := {
  mixed := by kernel_rfl
  f7 := ⟨Tryd.f42.name, by decide, Tryd.func42.trans (congrArg some (by kernel_rfl))⟩
  f10 := ⟨Tryd.f66.name, by decide, Tryd.func66.trans (congrArg some (by kernel_rfl))⟩
  t0 := Tryd.underlying0
  a0 := Tryd.isAgg0
  z0 := Tryd.sizeOf0
  v0 := Tryd.zeroValue0
  t4 := Tryd.underlying4
  a4 := Tryd.isAgg4
  z4 := Tryd.sizeOf4
  v4 := Tryd.zeroValue4
  t23 := Tryd.underlying80
  a23 := Tryd.isAgg80
  z23 := Tryd.sizeOf80
  v23 := Tryd.zeroValue80
  t26 := Tryd.underlying9
  a26 := Tryd.isAgg9
  z26 := Tryd.sizeOf9
  v26 := Tryd.zeroValue9
  t27 := Tryd.underlying105
  a27 := Tryd.isAgg105
  z27 := Tryd.sizeOf105
  v27 := Tryd.zeroValue105
  t28 := Tryd.underlying106
  a28 := Tryd.isAgg106
  z28 := Tryd.sizeOf106
  v28 := Tryd.zeroValue106
  t33 := Tryd.underlying60
  a33 := Tryd.isAgg60
  z33 := Tryd.sizeOf60
  v33 := Tryd.zeroValue60 }
def Tryd.sorted41_ren : Go.Shelf.Ren := ⟨fun | 6 => 41 | 8 => 64 | 9 => 65 | 11 => 98 | 13 => 100 | 12 => 99 | 23 => 126 | 24 => 127 | 14 => 117 | 15 => 118 | 16 => 119 | 17 => 120 | 18 => 121 | 19 => 122 | 20 => 123 | 21 => 124 | 22 => 125 | 25 => 141 | 26 => 142 | 27 => 143 | 28 => 144 | 29 => 145 | 30 => 146 | 31 => 149 | n => n, fun | 26 => 9 | 28 => 106 | 24 => 103 | 0 => 0 | 3 => 3 | 37 => 95 | 48 => 193 | 50 => 87 | 4 => 4 | 40 => 201 | 39 => 200 | 45 => 205 | 5 => 5 | 9 => 9 | 51 => 222 | 55 => 226 | 57 => 229 | 58 => 62 | 33 => 60 | n => n, fun | n => n⟩
theorem Tryd.sorted41 : Go.Proofs.SlLaysZ.n6 Tryd.prog Tryd.sorted41_ren := {
  mixed := by kernel_rfl
  f6 := ⟨Tryd.f41.name, by decide, Tryd.func41.trans (congrArg some (by kernel_rfl))⟩
  f8 := ⟨Tryd.f64.name, by decide, Tryd.func64.trans (congrArg some (by kernel_rfl))⟩
  f11 := ⟨Tryd.f98.name, by decide, Tryd.func98.trans (congrArg some (by kernel_rfl))⟩
  t0 := Tryd.underlying0
  a0 := Tryd.isAgg0
  z0 := Tryd.sizeOf0
  v0 := Tryd.zeroValue0
  t24 := Tryd.underlying103
  a24 := Tryd.isAgg103
  z24 := Tryd.sizeOf103
  v24 := Tryd.zeroValue103
  t26 := Tryd.underlying9
  a26 := Tryd.isAgg9
  z26 := Tryd.sizeOf9
  v26 := Tryd.zeroValue9
  t28 := Tryd.underlying106
  a28 := Tryd.isAgg106
  z28 := Tryd.sizeOf106
  v28 := Tryd.zeroValue106
  i26 := by kernel_rfl }
def Tryd.sort65_ren : Go.Shelf.Ren := ⟨fun | 6 => 65 | 8 => 100 | 9 => 99 | 19 => 126 | 20 => 127 | 21 => 117 | 22 => 118 | 23 => 119 | 24 => 120 | 25 => 121 | 26 => 122 | 27 => 123 | 28 => 124 | 29 => 125 | 36 => 141 | 31 => 142 | 32 => 143 | 37 => 144 | 38 => 145 | 39 => 146 | 41 => 149 | n => n, fun | 27 => 103 | 29 => 9 | 3 => 3 | 32 => 95 | 26 => 103 | 0 => 0 | 44 => 193 | 46 => 87 | 4 => 4 | 36 => 201 | 35 => 200 | 41 => 205 | 5 => 5 | 9 => 9 | 53 => 222 | 57 => 226 | 63 => 229 | 64 => 62 | n => n, fun | n => n⟩
theorem Tryd.sort65 : Go.Proofs.SlLaysM.n6 Tryd.prog Tryd.sort65_ren := {
  mixed := by kernel_rfl
  f6 := ⟨Tryd.f65.name, by decide, Tryd.func65.trans (congrArg some (by kernel_rfl))⟩
  f8 := Tryd.func100.trans (congrArg some (by kernel_rfl))
  f9 := ⟨Tryd.f99.name, by decide, Tryd.func99.trans (congrArg some (by kernel_rfl))⟩
  f19 := Tryd.func126.trans (congrArg some (by kernel_rfl))
  f20 := Tryd.func127.trans (congrArg some (by kernel_rfl))
  f21 := ⟨Tryd.f117.name, by decide, Tryd.func117.trans (congrArg some (by kernel_rfl))⟩
  f22 := ⟨Tryd.f118.name, by decide, Tryd.func118.trans (congrArg some (by kernel_rfl))⟩
  f23 := ⟨Tryd.f119.name, by decide, Tryd.func119.trans (congrArg some (by kernel_rfl))⟩
  f24 := ⟨Tryd.f120.name, by decide, Tryd.func120.trans (congrArg some (by kernel_rfl))⟩
  f25 := ⟨Tryd.f121.name, by decide, Tryd.func121.trans (congrArg some (by kernel_rfl))⟩
  f26 := ⟨Tryd.f122.name, by decide, Tryd.func122.trans (congrArg some (by kernel_rfl))⟩
  f27 := ⟨Tryd.f123.name, by decide, Tryd.func123.trans (congrArg some (by kernel_rfl))⟩
  f28 := ⟨Tryd.f124.name, by decide, Tryd.func124.trans (congrArg some (by kernel_rfl))⟩
  f29 := ⟨Tryd.f125.name, by decide, Tryd.func125.trans (congrArg some (by kernel_rfl))⟩
  f31 := Tryd.func142.trans (congrArg some (by kernel_rfl))
  f32 := Tryd.func143.trans (congrArg some (by kernel_rfl))
  f36 := ⟨Tryd.f141.name, by decide, Tryd.func141.trans (congrArg some (by kernel_rfl))⟩
  f37 := ⟨Tryd.f144.name, by decide, Tryd.func144.trans (congrArg some (by kernel_rfl))⟩
  f38 := ⟨Tryd.f145.name, by decide, Tryd.func145.trans (congrArg some (by kernel_rfl))⟩
  f39 := ⟨Tryd.f146.name, by decide, Tryd.func146.trans (congrArg some (by kernel_rfl))⟩
  f41 := ⟨Tryd.f149.name, by decide, Tryd.func149.trans (congrArg some (by kernel_rfl))⟩
  t0 := Tryd.underlying0
  a0 := Tryd.isAgg0
  z0 := Tryd.sizeOf0
  v0 := Tryd.zeroValue0
  t3 := Tryd.underlying3
  a3 := Tryd.isAgg3
  z3 := Tryd.sizeOf3
  v3 := Tryd.zeroValue3
  t4 := Tryd.underlying4
  a4 := Tryd.isAgg4
  z4 := Tryd.sizeOf4
  v4 := Tryd.zeroValue4
  t5 := Tryd.underlying5
  a5 := Tryd.isAgg5
  z5 := Tryd.sizeOf5
  v5 := Tryd.zeroValue5
  t9 := Tryd.underlying9
  a9 := Tryd.isAgg9
  z9 := Tryd.sizeOf9
  v9 := Tryd.zeroValue9
  t26 := Tryd.underlying103
  a26 := Tryd.isAgg103
  z26 := Tryd.sizeOf103
  v26 := Tryd.zeroValue103
  t27 := Tryd.underlying103
  a27 := Tryd.isAgg103
  z27 := Tryd.sizeOf103
  v27 := Tryd.zeroValue103
  t29 := Tryd.underlying9
  a29 := Tryd.isAgg9
  z29 := Tryd.sizeOf9
  v29 := Tryd.zeroValue9
  t32 := Tryd.underlying95
  a32 := Tryd.isAgg95
  z32 := Tryd.sizeOf95
  v32 := Tryd.zeroValue95
  t35 := Tryd.underlying200
  a35 := Tryd.isAgg200
  z35 := Tryd.sizeOf200
  v35 := Tryd.zeroValue200
  t36 := Tryd.underlying201
  a36 := Tryd.isAgg201
  z36 := Tryd.sizeOf201
  v36 := Tryd.zeroValue201
  t41 := Tryd.underlying205
  a41 := Tryd.isAgg205
  z41 := Tryd.sizeOf205
  v41 := Tryd.zeroValue205
  t44 := Tryd.underlying193
  a44 := Tryd.isAgg193
  z44 := Tryd.sizeOf193
  v44 := Tryd.zeroValue193
  t46 := Tryd.underlying87
  a46 := Tryd.isAgg87
  z46 := Tryd.sizeOf87
  v46 := Tryd.zeroValue87
  t53 := Tryd.underlying222
  a53 := Tryd.isAgg222
  z53 := Tryd.sizeOf222
  v53 := Tryd.zeroValue222
  t57 := Tryd.underlying226
  a57 := Tryd.isAgg226
  z57 := Tryd.sizeOf226
  v57 := Tryd.zeroValue226
  t63 := Tryd.underlying229
  a63 := Tryd.isAgg229
  z63 := Tryd.sizeOf229
  v63 := Tryd.zeroValue229
  t64 := Tryd.underlying62
  a64 := Tryd.isAgg62
  z64 := Tryd.sizeOf62
  v64 := Tryd.zeroValue62 }
end Go.Proofs
