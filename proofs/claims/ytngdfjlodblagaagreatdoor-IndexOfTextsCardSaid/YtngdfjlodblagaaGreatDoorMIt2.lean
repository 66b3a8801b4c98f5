/-
  Contracts and plain facts, one after another: Contracts of the library's functions, laid at this program out of the shelf: what these proofs use of them; Faults and ranges: the small functions; The tables of the library's, and stem.Letter, inWord; From a row's listed variables to the tables; Sorted lists of keys and values: look-up, insertion, removal; two of the same look-ups are one. No program is named here; Indexes: what the code and the reference compute; plain.
-/
import Derived.Test.YtngdfjlodblagaaGreatDoorProg
import Derived.Test.YtngdfjlodblagaaGreatDoorMIt1
import Derived.Test.YtngdfjlodblagaaGreatDoorRows
import Derived.Shelf.LaysM
import Derived.Shelf.Slices.Empties
import Derived.Shelf.Slices.SearchI
import Derived.Shelf.Small.Strs
import Derived.Shelf.Small.Wraps
import Derived.Shelf.Strings.Prefix
import Derived.Shelf.Unicode.CaseLaid
import Derived.Shelf.Unicode.DecodeAny
import Derived.Shelf.Unicode.PredsGnPay
import Derived.Shelf.Unicode.PredsPay
import Derived.Shelf.Utf8.AppendRunePlain
import Derived.Deep.QuietTactic
import Derived.BigQuiet
import Derived.Deep.RegionHeld3
import Derived.StillTailTactics
import Derived.Outline
import Derived.PinnedBridge
import Derived.Lib.LaidU8
import Derived.Lib.LaidCase
import Derived.Lib.LaidRTab
/-
  Contracts of the library's functions, laid at this program out of the shelf: what these proofs use of them.
-/
namespace Go.Proofs
open Go.Shelf
def Tryz.lays137_ren : Go.Shelf.Ren := ⟨fun | 137 => 116 | 217 => 141 | 266 => 165 | n => n, fun | 9 => 9 | 5 => 5 | 3 => 3 | n => n, fun | n => n⟩
theorem Tryz.lays137 : Go.Proofs.Lays.n137 Tryz.prog Tryz.lays137_ren := {
  mixed := by kernel_rfl
  f137 := Tryz.func116.trans (congrArg some (by kernel_rfl))
  f217 := Tryz.func141.trans (congrArg some (by kernel_rfl))
  f266 := Tryz.func165.trans (congrArg some (by kernel_rfl))
  t3 := Tryz.underlying3
  a3 := Tryz.isAgg3
  z3 := Tryz.sizeOf3
  v3 := Tryz.zeroValue3
  t5 := Tryz.underlying5
  a5 := Tryz.isAgg5
  z5 := Tryz.sizeOf5
  v5 := Tryz.zeroValue5
  t9 := Tryz.underlying9
  a9 := Tryz.isAgg9
  z9 := Tryz.sizeOf9
  v9 := Tryz.zeroValue9 }
open Go.RowKit in
theorem Tryz.strings_IndexByte (s : ByteArray) (c : Int) (w : World) :
    Calls Tryz.prog 116 #[.string s, .int .u8 c] w fun e w' => e = .returned (.int .i64 (Lib.indexByte s.data.toList c.toNat.toUInt8)) ∧ w' = w := Any.strings_IndexByte Tryz.lays137 s c w
def Tryz.lays104_ren : Go.Shelf.Ren := ⟨fun | 104 => 139 | 211 => 163 | 207 => 164 | n => n, fun | 9 => 9 | 4 => 4 | 24 => 149 | 3 => 3 | n => n, fun | n => n⟩
theorem Tryz.lays104 : Go.Proofs.Lays.n104 Tryz.prog Tryz.lays104_ren := {
  mixed := by kernel_rfl
  f104 := Tryz.func139.trans (congrArg some (by kernel_rfl))
  f207 := Tryz.func164.trans (congrArg some (by kernel_rfl))
  f211 := Tryz.func163.trans (congrArg some (by kernel_rfl))
  t3 := Tryz.underlying3
  a3 := Tryz.isAgg3
  z3 := Tryz.sizeOf3
  v3 := Tryz.zeroValue3
  t4 := Tryz.underlying4
  a4 := Tryz.isAgg4
  z4 := Tryz.sizeOf4
  v4 := Tryz.zeroValue4
  t9 := Tryz.underlying9
  a9 := Tryz.isAgg9
  z9 := Tryz.sizeOf9
  v9 := Tryz.zeroValue9
  t24 := Tryz.underlying149
  a24 := Tryz.isAgg149
  z24 := Tryz.sizeOf149
  v24 := Tryz.zeroValue149 }
open Go.RowKit in
theorem Tryz.strings_CutSuffix (s p : ByteArray) (w : World) (hs : s.size ≤ 9223372036854775807) :
    Calls Tryz.prog 139 #[.string s, .string p] w fun e w' => e = .returned (.tuple #[.string ⟨(Lib.trimSuffix s.data.toList p.data.toList).toArray⟩, .bool (Lib.hasSuffix s.data.toList p.data.toList)]) ∧ w' = w := Any.strings_CutSuffix Tryz.lays104 s p w hs
def Tryz.lays242_ren : Go.Shelf.Ren := ⟨fun | 242 => 85 | 278 => 117 | n => n, fun | 37 => 121 | 21 => 21 | 51 => 152 | 4 => 4 | 5 => 5 | 46 => 138 | n => n, fun | n => n⟩
theorem Tryz.lays242 : Go.Proofs.Lays.n242 Tryz.prog Tryz.lays242_ren := {
  mixed := by kernel_rfl
  f242 := Tryz.func85.trans (congrArg some (by kernel_rfl))
  f278 := Tryz.func117.trans (congrArg some (by kernel_rfl))
  t4 := Tryz.underlying4
  a4 := Tryz.isAgg4
  z4 := Tryz.sizeOf4
  v4 := Tryz.zeroValue4
  t5 := Tryz.underlying5
  a5 := Tryz.isAgg5
  z5 := Tryz.sizeOf5
  v5 := Tryz.zeroValue5
  t21 := Tryz.underlying21
  a21 := Tryz.isAgg21
  z21 := Tryz.sizeOf21
  v21 := Tryz.zeroValue21
  t37 := Tryz.underlying121
  a37 := Tryz.isAgg121
  z37 := Tryz.sizeOf121
  v37 := Tryz.zeroValue121
  t46 := Tryz.underlying138
  a46 := Tryz.isAgg138
  z46 := Tryz.sizeOf138
  v46 := Tryz.zeroValue138
  t51 := Tryz.underlying152
  a51 := Tryz.isAgg152
  z51 := Tryz.sizeOf152
  v51 := Tryz.zeroValue152 }
open Go.RowKit in
theorem Tryz.utf8_AppendRune_plain (B : Nat) (v : Value) (n : Nat) (xs : List Value) (r : Int) (hr0 : -2147483648 ≤ r) (hr1 : r ≤ 2147483647) (w : World) (hown : w.ownsRow B 5 1 v n xs) (hlen : n + 4 ≤ 140737488355328) (hBw : B ≤ w.heap.size) :
    Calls Tryz.prog 85 #[v, .int .i32 r] w fun e w' => ∃ v', e = .returned v' ∧ w'.ownsRow B 5 1 v' (n + (Lib.runeCells r).length) (xs ++ Lib.runeCells r) ∧ ∃ o, (w.alloc o).grownBy w' v.ownBlock := Any.utf8_AppendRune_plain Tryz.lays242 (by kernel_rfl) B v n xs r hr0 hr1 w hown hlen hBw
def Tryz.lays100_ren : Go.Shelf.Ren := ⟨fun | 100 => 140 | 207 => 164 | n => n, fun | 9 => 9 | 4 => 4 | 3 => 3 | n => n, fun | n => n⟩
theorem Tryz.lays100 : Go.Proofs.Lays.n100 Tryz.prog Tryz.lays100_ren := {
  mixed := by kernel_rfl
  f100 := Tryz.func140.trans (congrArg some (by kernel_rfl))
  f207 := Tryz.func164.trans (congrArg some (by kernel_rfl))
  t3 := Tryz.underlying3
  a3 := Tryz.isAgg3
  z3 := Tryz.sizeOf3
  v3 := Tryz.zeroValue3
  t4 := Tryz.underlying4
  a4 := Tryz.isAgg4
  z4 := Tryz.sizeOf4
  v4 := Tryz.zeroValue4
  t9 := Tryz.underlying9
  a9 := Tryz.isAgg9
  z9 := Tryz.sizeOf9
  v9 := Tryz.zeroValue9 }
open Go.RowKit Go.Lib in
theorem Tryz.strings_HasSuffix (s p : ByteArray) (w : World) (hs : s.size ≤ 9223372036854775807) :
    Calls Tryz.prog 140 #[.string s, .string p] w fun e w' => e = .returned (.bool (Lib.hasSuffix s.data.toList p.data.toList)) ∧ w' = w := Any.strings_HasSuffix Tryz.lays100 s p w hs
def Tryz.lays198_ren : Go.Shelf.Ren := ⟨fun | 198 => 101 | 261 => 130 | 311 => 157 | 312 => 158 | n => n, fun | 21 => 21 | 4 => 4 | 141 => 175 | 0 => 0 | 196 => 190 | 193 => 187 | 3 => 3 | 51 => 152 | 198 => 193 | 49 => 191 | 194 => 188 | 201 => 196 | 226 => 208 | 46 => 138 | 227 => 209 | n => n, fun | 5 => 5 | n => n⟩
theorem Tryz.lays198 : Go.Proofs.Lays.n198 Tryz.prog Tryz.lays198_ren := {
  mixed := by kernel_rfl
  f198 := Tryz.func101.trans (congrArg some (by kernel_rfl))
  f261 := Tryz.func130.trans (congrArg some (by kernel_rfl))
  f311 := Tryz.func157.trans (congrArg some (by kernel_rfl))
  f312 := Tryz.func158.trans (congrArg some (by kernel_rfl))
  t0 := Tryz.underlying0
  a0 := Tryz.isAgg0
  z0 := Tryz.sizeOf0
  v0 := Tryz.zeroValue0
  t3 := Tryz.underlying3
  a3 := Tryz.isAgg3
  z3 := Tryz.sizeOf3
  v3 := Tryz.zeroValue3
  t4 := Tryz.underlying4
  a4 := Tryz.isAgg4
  z4 := Tryz.sizeOf4
  v4 := Tryz.zeroValue4
  t21 := Tryz.underlying21
  a21 := Tryz.isAgg21
  z21 := Tryz.sizeOf21
  v21 := Tryz.zeroValue21
  t46 := Tryz.underlying138
  a46 := Tryz.isAgg138
  z46 := Tryz.sizeOf138
  v46 := Tryz.zeroValue138
  t49 := Tryz.underlying191
  a49 := Tryz.isAgg191
  z49 := Tryz.sizeOf191
  v49 := Tryz.zeroValue191
  t51 := Tryz.underlying152
  a51 := Tryz.isAgg152
  z51 := Tryz.sizeOf152
  v51 := Tryz.zeroValue152
  t141 := Tryz.underlying175
  a141 := Tryz.isAgg175
  z141 := Tryz.sizeOf175
  v141 := Tryz.zeroValue175
  t193 := Tryz.underlying187
  a193 := Tryz.isAgg187
  z193 := Tryz.sizeOf187
  v193 := Tryz.zeroValue187
  t194 := Tryz.underlying188
  a194 := Tryz.isAgg188
  z194 := Tryz.sizeOf188
  v194 := Tryz.zeroValue188
  t196 := Tryz.underlying190
  a196 := Tryz.isAgg190
  z196 := Tryz.sizeOf190
  v196 := Tryz.zeroValue190
  t198 := Tryz.underlying193
  a198 := Tryz.isAgg193
  z198 := Tryz.sizeOf193
  v198 := Tryz.zeroValue193
  t201 := Tryz.underlying196
  a201 := Tryz.isAgg196
  z201 := Tryz.sizeOf196
  v201 := Tryz.zeroValue196
  t226 := Tryz.underlying208
  a226 := Tryz.isAgg208
  z226 := Tryz.sizeOf208
  v226 := Tryz.zeroValue208
  t227 := Tryz.underlying209
  a227 := Tryz.isAgg209
  z227 := Tryz.sizeOf209
  v227 := Tryz.zeroValue209
  g5 := by kernel_rfl }
def Tryz.lays204_ren : Go.Shelf.Ren := ⟨fun | 204 => 58 | 262 => 88 | 313 => 118 | 274 => 142 | 275 => 143 | n => n, fun | 21 => 21 | 4 => 4 | 3 => 3 | 162 => 159 | 203 => 157 | 160 => 179 | 46 => 138 | 0 => 0 | 208 => 203 | 51 => 152 | 206 => 201 | n => n, fun | 13 => 2 | n => n⟩
theorem Tryz.lays204 : Go.Proofs.Lays.n204 Tryz.prog Tryz.lays204_ren := {
  mixed := by kernel_rfl
  f204 := Tryz.func58.trans (congrArg some (by kernel_rfl))
  f262 := Tryz.func88.trans (congrArg some (by kernel_rfl))
  f274 := Tryz.func142.trans (congrArg some (by kernel_rfl))
  f275 := Tryz.func143.trans (congrArg some (by kernel_rfl))
  f313 := Tryz.func118.trans (congrArg some (by kernel_rfl))
  t0 := Tryz.underlying0
  a0 := Tryz.isAgg0
  z0 := Tryz.sizeOf0
  v0 := Tryz.zeroValue0
  t3 := Tryz.underlying3
  a3 := Tryz.isAgg3
  z3 := Tryz.sizeOf3
  v3 := Tryz.zeroValue3
  t4 := Tryz.underlying4
  a4 := Tryz.isAgg4
  z4 := Tryz.sizeOf4
  v4 := Tryz.zeroValue4
  t21 := Tryz.underlying21
  a21 := Tryz.isAgg21
  z21 := Tryz.sizeOf21
  v21 := Tryz.zeroValue21
  t46 := Tryz.underlying138
  a46 := Tryz.isAgg138
  z46 := Tryz.sizeOf138
  v46 := Tryz.zeroValue138
  t51 := Tryz.underlying152
  a51 := Tryz.isAgg152
  z51 := Tryz.sizeOf152
  v51 := Tryz.zeroValue152
  t160 := Tryz.underlying179
  a160 := Tryz.isAgg179
  z160 := Tryz.sizeOf179
  v160 := Tryz.zeroValue179
  t162 := Tryz.underlying159
  a162 := Tryz.isAgg159
  z162 := Tryz.sizeOf159
  v162 := Tryz.zeroValue159
  t203 := Tryz.underlying157
  a203 := Tryz.isAgg157
  z203 := Tryz.sizeOf157
  v203 := Tryz.zeroValue157
  t206 := Tryz.underlying201
  a206 := Tryz.isAgg201
  z206 := Tryz.sizeOf201
  v206 := Tryz.zeroValue201
  t208 := Tryz.underlying203
  a208 := Tryz.isAgg203
  z208 := Tryz.sizeOf203
  v208 := Tryz.zeroValue203
  g13 := by kernel_rfl }
def Tryz.lays200_ren : Go.Shelf.Ren := ⟨fun | 200 => 100 | 261 => 130 | 311 => 157 | 312 => 158 | n => n, fun | 21 => 21 | 4 => 4 | 51 => 152 | 5 => 5 | 119 => 153 | 0 => 0 | 141 => 175 | 196 => 190 | 193 => 187 | 3 => 3 | 198 => 193 | 49 => 191 | 194 => 188 | 201 => 196 | 226 => 208 | 46 => 138 | 227 => 209 | n => n, fun | 7 => 3 | 8 => 4 | n => n⟩
theorem Tryz.lays200 : Go.Proofs.Lays.n200 Tryz.prog Tryz.lays200_ren := {
  mixed := by kernel_rfl
  f200 := Tryz.func100.trans (congrArg some (by kernel_rfl))
  f261 := Tryz.func130.trans (congrArg some (by kernel_rfl))
  f311 := Tryz.func157.trans (congrArg some (by kernel_rfl))
  f312 := Tryz.func158.trans (congrArg some (by kernel_rfl))
  t0 := Tryz.underlying0
  a0 := Tryz.isAgg0
  z0 := Tryz.sizeOf0
  v0 := Tryz.zeroValue0
  t3 := Tryz.underlying3
  a3 := Tryz.isAgg3
  z3 := Tryz.sizeOf3
  v3 := Tryz.zeroValue3
  t4 := Tryz.underlying4
  a4 := Tryz.isAgg4
  z4 := Tryz.sizeOf4
  v4 := Tryz.zeroValue4
  t5 := Tryz.underlying5
  a5 := Tryz.isAgg5
  z5 := Tryz.sizeOf5
  v5 := Tryz.zeroValue5
  t21 := Tryz.underlying21
  a21 := Tryz.isAgg21
  z21 := Tryz.sizeOf21
  v21 := Tryz.zeroValue21
  t46 := Tryz.underlying138
  a46 := Tryz.isAgg138
  z46 := Tryz.sizeOf138
  v46 := Tryz.zeroValue138
  t49 := Tryz.underlying191
  a49 := Tryz.isAgg191
  z49 := Tryz.sizeOf191
  v49 := Tryz.zeroValue191
  t51 := Tryz.underlying152
  a51 := Tryz.isAgg152
  z51 := Tryz.sizeOf152
  v51 := Tryz.zeroValue152
  t119 := Tryz.underlying153
  a119 := Tryz.isAgg153
  z119 := Tryz.sizeOf153
  t141 := Tryz.underlying175
  a141 := Tryz.isAgg175
  z141 := Tryz.sizeOf175
  v141 := Tryz.zeroValue175
  t193 := Tryz.underlying187
  a193 := Tryz.isAgg187
  z193 := Tryz.sizeOf187
  v193 := Tryz.zeroValue187
  t194 := Tryz.underlying188
  a194 := Tryz.isAgg188
  z194 := Tryz.sizeOf188
  v194 := Tryz.zeroValue188
  t196 := Tryz.underlying190
  a196 := Tryz.isAgg190
  z196 := Tryz.sizeOf190
  v196 := Tryz.zeroValue190
  t198 := Tryz.underlying193
  a198 := Tryz.isAgg193
  z198 := Tryz.sizeOf193
  v198 := Tryz.zeroValue193
  t201 := Tryz.underlying196
  a201 := Tryz.isAgg196
  z201 := Tryz.sizeOf196
  v201 := Tryz.zeroValue196
  t226 := Tryz.underlying208
  a226 := Tryz.isAgg208
  z226 := Tryz.sizeOf208
  v226 := Tryz.zeroValue208
  t227 := Tryz.underlying209
  a227 := Tryz.isAgg209
  z227 := Tryz.sizeOf209
  v227 := Tryz.zeroValue209
  g7 := by kernel_rfl
  g8 := by kernel_rfl }
def Tryz.lays197_ren : Go.Shelf.Ren := ⟨fun | 197 => 57 | 260 => 87 | n => n, fun | 9 => 9 | 21 => 21 | 3 => 3 | 4 => 4 | 5 => 5 | 105 => 91 | 119 => 153 | 0 => 0 | 46 => 138 | 139 => 156 | 138 => 155 | n => n, fun | 3 => 0 | 4 => 1 | n => n⟩
theorem Tryz.lays197 : Go.Proofs.Lays.n197 Tryz.prog Tryz.lays197_ren := {
  mixed := by kernel_rfl
  f197 := Tryz.func57.trans (congrArg some (by kernel_rfl))
  f260 := Tryz.func87.trans (congrArg some (by kernel_rfl))
  t0 := Tryz.underlying0
  a0 := Tryz.isAgg0
  z0 := Tryz.sizeOf0
  v0 := Tryz.zeroValue0
  t3 := Tryz.underlying3
  a3 := Tryz.isAgg3
  z3 := Tryz.sizeOf3
  v3 := Tryz.zeroValue3
  t4 := Tryz.underlying4
  a4 := Tryz.isAgg4
  z4 := Tryz.sizeOf4
  v4 := Tryz.zeroValue4
  t5 := Tryz.underlying5
  a5 := Tryz.isAgg5
  z5 := Tryz.sizeOf5
  v5 := Tryz.zeroValue5
  t9 := Tryz.underlying9
  a9 := Tryz.isAgg9
  z9 := Tryz.sizeOf9
  v9 := Tryz.zeroValue9
  t21 := Tryz.underlying21
  a21 := Tryz.isAgg21
  z21 := Tryz.sizeOf21
  v21 := Tryz.zeroValue21
  t46 := Tryz.underlying138
  a46 := Tryz.isAgg138
  z46 := Tryz.sizeOf138
  v46 := Tryz.zeroValue138
  t105 := Tryz.underlying91
  a105 := Tryz.isAgg91
  z105 := Tryz.sizeOf91
  v105 := Tryz.zeroValue91
  t119 := Tryz.underlying153
  a119 := Tryz.isAgg153
  z119 := Tryz.sizeOf153
  t138 := Tryz.underlying155
  a138 := Tryz.isAgg155
  z138 := Tryz.sizeOf155
  v138 := Tryz.zeroValue155
  t139 := Tryz.underlying156
  a139 := Tryz.isAgg156
  z139 := Tryz.sizeOf156
  v139 := Tryz.zeroValue156
  g3 := by kernel_rfl
  g4 := by kernel_rfl }
def Tryz.lays260_ren : Go.Shelf.Ren := ⟨fun | 260 => 87 | n => n, fun | 9 => 9 | 21 => 21 | 3 => 3 | 4 => 4 | 5 => 5 | 119 => 153 | 0 => 0 | 46 => 138 | 139 => 156 | 138 => 155 | n => n, fun | 3 => 0 | 4 => 1 | n => n⟩
theorem Tryz.lays260 : Go.Proofs.Lays.n260 Tryz.prog Tryz.lays260_ren := {
  mixed := by kernel_rfl
  f260 := Tryz.func87.trans (congrArg some (by kernel_rfl))
  t0 := Tryz.underlying0
  a0 := Tryz.isAgg0
  z0 := Tryz.sizeOf0
  v0 := Tryz.zeroValue0
  t3 := Tryz.underlying3
  a3 := Tryz.isAgg3
  z3 := Tryz.sizeOf3
  v3 := Tryz.zeroValue3
  t4 := Tryz.underlying4
  a4 := Tryz.isAgg4
  z4 := Tryz.sizeOf4
  v4 := Tryz.zeroValue4
  t5 := Tryz.underlying5
  a5 := Tryz.isAgg5
  z5 := Tryz.sizeOf5
  v5 := Tryz.zeroValue5
  t9 := Tryz.underlying9
  a9 := Tryz.isAgg9
  z9 := Tryz.sizeOf9
  v9 := Tryz.zeroValue9
  t21 := Tryz.underlying21
  a21 := Tryz.isAgg21
  z21 := Tryz.sizeOf21
  v21 := Tryz.zeroValue21
  t46 := Tryz.underlying138
  a46 := Tryz.isAgg138
  z46 := Tryz.sizeOf138
  v46 := Tryz.zeroValue138
  t119 := Tryz.underlying153
  a119 := Tryz.isAgg153
  z119 := Tryz.sizeOf153
  t138 := Tryz.underlying155
  a138 := Tryz.isAgg155
  z138 := Tryz.sizeOf155
  v138 := Tryz.zeroValue155
  t139 := Tryz.underlying156
  a139 := Tryz.isAgg156
  z139 := Tryz.sizeOf156
  v139 := Tryz.zeroValue156
  g3 := by kernel_rfl
  g4 := by kernel_rfl }
open Go.RowKit Go.Lib in
theorem Tryz.utf8_DecodeRuneInString (s : ByteArray) (w : World) (hT : Lib.Utf8Tabs 0 1 w) :
    Calls Tryz.prog 57 #[.string s] w fun e w' => e = .returned (.tuple #[.int .i32 (Lib.decodeGo s).1, .int .i64 (Lib.decodeGo s).2]) ∧ Below w.heap.size w w' := Any.utf8_DecodeRuneInString Tryz.lays197 s w hT
def Tryz.lays261_ren : Go.Shelf.Ren := ⟨fun | 261 => 130 | 311 => 157 | 312 => 158 | n => n, fun | 141 => 175 | 21 => 21 | 4 => 4 | 0 => 0 | 196 => 190 | 193 => 187 | 3 => 3 | 51 => 152 | 198 => 193 | 49 => 191 | 194 => 188 | 201 => 196 | 226 => 208 | 46 => 138 | 227 => 209 | n => n, fun | n => n⟩
theorem Tryz.lays261 : Go.Proofs.Lays.n261 Tryz.prog Tryz.lays261_ren := {
  mixed := by kernel_rfl
  f261 := Tryz.func130.trans (congrArg some (by kernel_rfl))
  f311 := Tryz.func157.trans (congrArg some (by kernel_rfl))
  f312 := Tryz.func158.trans (congrArg some (by kernel_rfl))
  t0 := Tryz.underlying0
  a0 := Tryz.isAgg0
  z0 := Tryz.sizeOf0
  v0 := Tryz.zeroValue0
  t3 := Tryz.underlying3
  a3 := Tryz.isAgg3
  z3 := Tryz.sizeOf3
  v3 := Tryz.zeroValue3
  t4 := Tryz.underlying4
  a4 := Tryz.isAgg4
  z4 := Tryz.sizeOf4
  v4 := Tryz.zeroValue4
  t21 := Tryz.underlying21
  a21 := Tryz.isAgg21
  z21 := Tryz.sizeOf21
  v21 := Tryz.zeroValue21
  t46 := Tryz.underlying138
  a46 := Tryz.isAgg138
  z46 := Tryz.sizeOf138
  v46 := Tryz.zeroValue138
  t49 := Tryz.underlying191
  a49 := Tryz.isAgg191
  z49 := Tryz.sizeOf191
  v49 := Tryz.zeroValue191
  t51 := Tryz.underlying152
  a51 := Tryz.isAgg152
  z51 := Tryz.sizeOf152
  v51 := Tryz.zeroValue152
  t141 := Tryz.underlying175
  a141 := Tryz.isAgg175
  z141 := Tryz.sizeOf175
  v141 := Tryz.zeroValue175
  t193 := Tryz.underlying187
  a193 := Tryz.isAgg187
  z193 := Tryz.sizeOf187
  v193 := Tryz.zeroValue187
  t194 := Tryz.underlying188
  a194 := Tryz.isAgg188
  z194 := Tryz.sizeOf188
  v194 := Tryz.zeroValue188
  t196 := Tryz.underlying190
  a196 := Tryz.isAgg190
  z196 := Tryz.sizeOf190
  v196 := Tryz.zeroValue190
  t198 := Tryz.underlying193
  a198 := Tryz.isAgg193
  z198 := Tryz.sizeOf193
  v198 := Tryz.zeroValue193
  t201 := Tryz.underlying196
  a201 := Tryz.isAgg196
  z201 := Tryz.sizeOf196
  v201 := Tryz.zeroValue196
  t226 := Tryz.underlying208
  a226 := Tryz.isAgg208
  z226 := Tryz.sizeOf208
  v226 := Tryz.zeroValue208
  t227 := Tryz.underlying209
  a227 := Tryz.isAgg209
  z227 := Tryz.sizeOf209
  v227 := Tryz.zeroValue209 }
def Tryz.lays274_ren : Go.Shelf.Ren := ⟨fun | 274 => 142 | n => n, fun | 21 => 21 | 162 => 159 | 160 => 179 | 3 => 3 | 4 => 4 | 46 => 138 | 0 => 0 | 208 => 203 | 51 => 152 | 206 => 201 | n => n, fun | n => n⟩
theorem Tryz.lays274 : Go.Proofs.Lays.n274 Tryz.prog Tryz.lays274_ren := {
  mixed := by kernel_rfl
  f274 := Tryz.func142.trans (congrArg some (by kernel_rfl))
  t0 := Tryz.underlying0
  a0 := Tryz.isAgg0
  z0 := Tryz.sizeOf0
  v0 := Tryz.zeroValue0
  t3 := Tryz.underlying3
  a3 := Tryz.isAgg3
  z3 := Tryz.sizeOf3
  v3 := Tryz.zeroValue3
  t4 := Tryz.underlying4
  a4 := Tryz.isAgg4
  z4 := Tryz.sizeOf4
  v4 := Tryz.zeroValue4
  t21 := Tryz.underlying21
  a21 := Tryz.isAgg21
  z21 := Tryz.sizeOf21
  v21 := Tryz.zeroValue21
  t46 := Tryz.underlying138
  a46 := Tryz.isAgg138
  z46 := Tryz.sizeOf138
  v46 := Tryz.zeroValue138
  t51 := Tryz.underlying152
  a51 := Tryz.isAgg152
  z51 := Tryz.sizeOf152
  v51 := Tryz.zeroValue152
  t160 := Tryz.underlying179
  a160 := Tryz.isAgg179
  z160 := Tryz.sizeOf179
  v160 := Tryz.zeroValue179
  t162 := Tryz.underlying159
  a162 := Tryz.isAgg159
  z162 := Tryz.sizeOf159
  v162 := Tryz.zeroValue159
  t208 := Tryz.underlying203
  a208 := Tryz.isAgg203
  z208 := Tryz.sizeOf203
  v208 := Tryz.zeroValue203 }
open Go.RowKit Go.Lib in
theorem Tryz.unicode_ToLower_laid (r : Int) (w : World) (hV : CaseVar 2 caseA w) :
    Calls Tryz.prog 58 #[.int .i32 r] w fun e w' => e = .returned (.int .i32 (toLowerU r)) ∧ ∃ q, w' = w.drewN q := Any.unicode_ToLower_laid Tryz.lays204 r w hV
open Go.RowKit Go.Lib in
theorem Tryz.unicode_IsLetter_all (r : Int) (w : World) (hlo : -2147483648 ≤ r) (hhi : r ≤ 2147483647) (htab : Lib.TabIs Tryz.prog w "unicode.properties" .u8 Lib.propertiesTab) (hV : RVar 4 letterT w) :
    Calls Tryz.prog 100 #[.int .i32 r] w fun e w' => e = .returned (.bool (isLetterU r)) ∧ Below w.heap.size w w' := Any.unicode_IsLetter_all Tryz.lays200 (by kernel_rfl) r w hlo hhi htab hV
open Go.RowKit Go.Lib in
theorem Tryz.unicode_IsDigit_all (r : Int) (w : World) (hlo : -2147483648 ≤ r) (hhi : r ≤ 2147483647) (hV : RVar 5 digitT w) :
    Calls Tryz.prog 101 #[.int .i32 r] w fun e w' => e = .returned (.bool (isDigitU r)) ∧ Below w.heap.size w w' := Any.unicode_IsDigit_all Tryz.lays198 r w hlo hhi hV
def Tryz.laysGn19_ren : Go.Shelf.Ren := ⟨fun | 19 => 102 | 27 => 130 | 25 => 157 | 26 => 158 | n => n, fun | 21 => 21 | 4 => 4 | 22 => 175 | 0 => 0 | 31 => 190 | 28 => 187 | 3 => 3 | 32 => 152 | 35 => 193 | 33 => 191 | 29 => 188 | 38 => 196 | 41 => 208 | 42 => 138 | 43 => 209 | n => n, fun | 3 => 6 | n => n⟩
theorem Tryz.laysGn19 : Go.Proofs.LaysGn.n19 Tryz.prog Tryz.laysGn19_ren := {
  mixed := by kernel_rfl
  f19 := Tryz.func102.trans (congrArg some (by kernel_rfl))
  f25 := Tryz.func157.trans (congrArg some (by kernel_rfl))
  f26 := Tryz.func158.trans (congrArg some (by kernel_rfl))
  f27 := Tryz.func130.trans (congrArg some (by kernel_rfl))
  t0 := Tryz.underlying0
  a0 := Tryz.isAgg0
  z0 := Tryz.sizeOf0
  v0 := Tryz.zeroValue0
  i0 := by kernel_rfl
  t3 := Tryz.underlying3
  a3 := Tryz.isAgg3
  z3 := Tryz.sizeOf3
  v3 := Tryz.zeroValue3
  i3 := by kernel_rfl
  t4 := Tryz.underlying4
  a4 := Tryz.isAgg4
  z4 := Tryz.sizeOf4
  v4 := Tryz.zeroValue4
  i4 := by kernel_rfl
  t21 := Tryz.underlying21
  a21 := Tryz.isAgg21
  z21 := Tryz.sizeOf21
  v21 := Tryz.zeroValue21
  i21 := by kernel_rfl
  t22 := Tryz.underlying175
  a22 := Tryz.isAgg175
  z22 := Tryz.sizeOf175
  v22 := Tryz.zeroValue175
  i22 := by kernel_rfl
  t28 := Tryz.underlying187
  a28 := Tryz.isAgg187
  z28 := Tryz.sizeOf187
  v28 := Tryz.zeroValue187
  i28 := by kernel_rfl
  t29 := Tryz.underlying188
  a29 := Tryz.isAgg188
  z29 := Tryz.sizeOf188
  v29 := Tryz.zeroValue188
  i29 := by kernel_rfl
  t31 := Tryz.underlying190
  a31 := Tryz.isAgg190
  z31 := Tryz.sizeOf190
  v31 := Tryz.zeroValue190
  i31 := by kernel_rfl
  t32 := Tryz.underlying152
  a32 := Tryz.isAgg152
  z32 := Tryz.sizeOf152
  v32 := Tryz.zeroValue152
  i32 := by kernel_rfl
  t33 := Tryz.underlying191
  a33 := Tryz.isAgg191
  z33 := Tryz.sizeOf191
  v33 := Tryz.zeroValue191
  i33 := by kernel_rfl
  t35 := Tryz.underlying193
  a35 := Tryz.isAgg193
  z35 := Tryz.sizeOf193
  v35 := Tryz.zeroValue193
  i35 := by kernel_rfl
  t38 := Tryz.underlying196
  a38 := Tryz.isAgg196
  z38 := Tryz.sizeOf196
  v38 := Tryz.zeroValue196
  i38 := by kernel_rfl
  t41 := Tryz.underlying208
  a41 := Tryz.isAgg208
  z41 := Tryz.sizeOf208
  v41 := Tryz.zeroValue208
  i41 := by kernel_rfl
  t42 := Tryz.underlying138
  a42 := Tryz.isAgg138
  z42 := Tryz.sizeOf138
  v42 := Tryz.zeroValue138
  i42 := by kernel_rfl
  t43 := Tryz.underlying209
  a43 := Tryz.isAgg209
  z43 := Tryz.sizeOf209
  v43 := Tryz.zeroValue209
  i43 := by kernel_rfl
  g3 := by kernel_rfl
  m3 := by kernel_rfl }
open Go.RowKit Go.Lib in
theorem Tryz.unicode_IsMark_all (r : Int) (w : World) (hlo : -2147483648 ≤ r) (hhi : r ≤ 2147483647) (hV : RVar 6 markT w) :
    Calls Tryz.prog 102 #[.int .i32 r] w fun e w' => e = .returned (.bool (isMarkU r)) ∧ Below w.heap.size w w' := Any.unicode_IsMark_all Tryz.laysGn19 r w hlo hhi hV
def Tryz.laysNm225_ren : Go.Shelf.Ren := ⟨fun | 25 => 69 | 31 => 104 | 32 => 105 | 37 => 134 | n => n, fun | 22 => 22 | 3 => 3 | 4 => 4 | 40 => 138 | 0 => 0 | n => n, fun | n => n⟩
theorem Tryz.laysNm225 : Go.Proofs.Lays2.n25 Tryz.prog Tryz.laysNm225_ren := {
  mixed := by kernel_rfl
  f25 := Tryz.func69.trans (congrArg some (by kernel_rfl))
  f31 := Tryz.func104.trans (congrArg some (by kernel_rfl))
  f32 := Tryz.func105.trans (congrArg some (by kernel_rfl))
  f37 := Tryz.func134.trans (congrArg some (by kernel_rfl))
  t0 := Tryz.underlying0
  a0 := Tryz.isAgg0
  z0 := Tryz.sizeOf0
  v0 := Tryz.zeroValue0
  t3 := Tryz.underlying3
  a3 := Tryz.isAgg3
  z3 := Tryz.sizeOf3
  v3 := Tryz.zeroValue3
  t4 := Tryz.underlying4
  a4 := Tryz.isAgg4
  z4 := Tryz.sizeOf4
  v4 := Tryz.zeroValue4
  t22 := Tryz.underlying22
  a22 := Tryz.isAgg22
  z22 := Tryz.sizeOf22
  v22 := Tryz.zeroValue22
  t40 := Tryz.underlying138
  a40 := Tryz.isAgg138
  z40 := Tryz.sizeOf138
  v40 := Tryz.zeroValue138 }
open Go.RowKit Go.Lib in
theorem Tryz.slices_BinarySearch_int (b off n c : Nat) (zs : List Int) (x : Int) (w : World) (hz : n ≤ zs.length) (hbig : n < 4611686018427387904) (hc : ∀ j, j < zs.length → w.cell? ⟨b, off + j, none⟩ = some (.int .i64 (zs.getD j 0))) (hs : (zs.take n).Pairwise (· ≤ ·)) :
    Calls Tryz.prog 69 #[.slice (some ⟨b, off, none⟩) n c, .int .i64 x] w fun e w' => e = .returned (.tuple #[.int .i64 ((zs.take n).countP (· < x) : Nat), .bool ((zs.take n).contains x)]) ∧ ∃ q, w' = w.drewN q := Any.slices_BinarySearch_int Tryz.laysNm225 b off n c zs x w hz hbig hc hs
open Go.RowKit Go.Lib in
theorem Tryz.slices_BinarySearch_int_empty (a : Option Addr) (c : Nat) (x : Int) (w : World) :
    Calls Tryz.prog 69 #[.slice a 0 c, .int .i64 x] w fun e w' => e = .returned (.tuple #[.int .i64 0, .bool false]) ∧ w' = w := Any.slices_BinarySearch_int_empty Tryz.laysNm225 a c x w
end Go.Proofs
/-
  Faults and ranges: the small functions.
-/
namespace Go.Proofs.YtngdfjlodblagaaGreatDoor
open Go.RowKit

theorem ret_str {a b : ByteArray} (h : a = b) : Ending.returned (.string a) = .returned (.string b) := by rw [h]
theorem ret_bool {a b : Bool} (h : a = b) : Ending.returned (.bool a) = .returned (.bool b) := by rw [h]
/-! ### Faults -/
theorem none_ok (w : World) : Calls Tryz.prog 40 #[] w fun e w' => e = .returned (.agg #[.int .i64 0, .int .i64 0]) ∧ Below w.heap.size w w' := by
  go_enter Tryz.func40, Tryz.ntmps40
  go_wp2
  exact bodyPost_ret (v := .agg #[.int .i64 0, .int .i64 0]) (by simp [results, Tryz.results40, go_sem]) rfl ⟨rfl, (Below.refl _ _).alloc (Nat.le_refl _) _⟩
theorem fault_ok (a b : Int) (w : World) : Calls Tryz.prog 36 #[.int .i64 a, .int .i64 b] w fun e w' => e = .returned (.agg #[.int .i64 a, .int .i64 b]) ∧ Below w.heap.size w w' := by
  go_enter Tryz.func36, Tryz.ntmps36
  go_wp2
  exact bodyPost_ret (v := .agg #[.int .i64 a, .int .i64 b]) (by simp [results, Tryz.results36, go_sem]) rfl ⟨rfl, (Below.refl _ _).alloc (Nat.le_refl _) _⟩
theorem failed_ok (a b : Int) (w : World) : Calls Tryz.prog 33 #[.agg #[.int .i64 a, .int .i64 b]] w fun e w' => e = .returned (.bool (a != 0)) ∧ Below w.heap.size w w' := by
  go_enter Tryz.func33, Tryz.ntmps33
  go_wp2
  go_ret
  exact ⟨rfl, (Below.refl _ _).alloc (Nat.le_refl _) _⟩
theorem Blk.put2 {w : World} {g : Nat} {t : TypeId} {x y : Value} (h : Blk w g t #[x, y]) (a b : Value) :
    ((w.setCell ⟨g, 0, none⟩ a).setCell ⟨g, 1, none⟩ b).cell? ⟨g, 0, none⟩ = some a ∧ ((w.setCell ⟨g, 0, none⟩ a).setCell ⟨g, 1, none⟩ b).cell? ⟨g, 1, none⟩ = some b := by
  have h2 : Blk ((w.setCell ⟨g, 0, none⟩ a).setCell ⟨g, 1, none⟩ b) g t #[a, b] := by simpa using (h.set_ 0 a).set_ 1 b
  exact ⟨h2.two.1, h2.two.2.1⟩
theorem below2 {w : World} {w1 w2 : World} (h1 : Below w.heap.size w w1) (h2 : Below w1.heap.size w1 w2) : Below w.heap.size w w2 := h1.trans (h2.mono h1.size)
theorem below_set2 {B : Nat} {w w' : World} (h : Below B w w') {g : Nat} (hg : B ≤ g) (a b : Value) : Below B w ((w'.setCell ⟨g, 0, none⟩ a).setCell ⟨g, 1, none⟩ b) := Below.setCell (p := ⟨g, 1, none⟩) (Below.setCell (p := ⟨g, 0, none⟩) h hg a) hg b
theorem below_drew {B : Nat} {w w' : World} (h : Below B w w') : Below B w w'.drew := ⟨h.os, h.tape, h.output, h.size, h.block⟩
theorem ret_fault {a b c d : Int} (h : (c, d) = (a, b)) : Ending.returned (.agg #[.int .i64 a, .int .i64 b]) = .returned (.agg #[.int .i64 c, .int .i64 d]) := by injection h with h1 h2; rw [h1, h2]
theorem SlR.set2 {α : Type} {C : Codec α} {M : Nat → Prop} {w : World} {v : Value} {l : List α} (h : SlR C M w v l) {g : Nat} (hg : M g) (a b : Value) : SlR C M ((w.setCell ⟨g, 0, none⟩ a).setCell ⟨g, 1, none⟩ b) v l :=
  h.keep (fun k _ hk => (heap_setCell_other _ _ _ _ (fun e => hk (by rw [show k = g from e]; exact hg))).trans (heap_setCell_other _ _ _ _ (fun e => hk (by rw [show k = g from e]; exact hg)))) (by simp)
end Go.Proofs.YtngdfjlodblagaaGreatDoor
/-
  The tables of the library's, and stem.Letter, inWord.
-/
namespace Go.Proofs.YtngdfjlodblagaaGreatDoor
open Go.RowKit
set_option linter.unusedVariables false
/-- the tables lie as the library's text lays them -/
structure TabsU (w : World) : Prop where
  u8 : Lib.Utf8Tabs 0 1 w
  case : Lib.CaseVar 2 Lib.caseA w
  props : Lib.TabIs Tryz.prog w "unicode.properties" .u8 Lib.propertiesTab
  letter : Lib.RVar 4 Lib.letterT w
  digit : Lib.RVar 5 Lib.digitT w
  mark : Lib.RVar 6 Lib.markT w
theorem caseVar_ext {g : Nat} {T : Array Lib.CaseRow} {w w' : World} (h : Lib.CaseVar g T w) (hb : Below w.heap.size w w') : Lib.CaseVar g T w' := by
  have k : ∀ {a : Addr} {v : Value}, w.cell? a = some v → w'.cell? a = some v := fun {a v} hc => (hb.cell (World.block_lt_of_cell? w a hc)).trans hc
  obtain ⟨R, oR, cap, h1, h2⟩ := h
  exact ⟨R, oR, cap, k h1, fun i hi => ⟨k (h2 i hi).1, k (h2 i hi).2.1, k (h2 i hi).2.2.1, k (h2 i hi).2.2.2.1, k (h2 i hi).2.2.2.2⟩⟩
theorem TabsU.ext {w w' : World} (h : TabsU w) (hb : Below w.heap.size w w') : TabsU w' where
  u8 := Utf8Tabs_below h.u8 hb
  case := caseVar_ext h.case hb
  props := TabIs_below (g := 3) (by kernel_rfl) h.props hb
  letter := RVar_below h.letter hb
  digit := RVar_below h.digit hb
  mark := RVar_below h.mark hb
theorem chLetter_ok (r : Nat) (hr : r ≤ 1114111) (w : World) (hT : TabsU w) : Calls Tryz.prog 133 #[.int .i32 (r : Int)] w fun e w' => e = .returned (.bool (Sm.isL r)) ∧ Below w.heap.size w w' := by
  have h1 := Tryz.unicode_IsLetter_all (r : Int) w (by omega) (by omega) hT.props hT.letter
  have h2 := fun W hb => Tryz.unicode_IsDigit_all (r : Int) W (by omega) (by omega) (hT.ext hb).digit
  have h3 := fun W hb => Tryz.unicode_IsMark_all (r : Int) W (by omega) (by omega) (hT.ext hb).mark
  have hl : Sm.isL r = (Lib.isLetterU (r : Int) || Lib.isDigitU (r : Int) || Lib.isMarkU (r : Int)) := rfl
  clear hT
  generalize Lib.isLetterU (r : Int) = b1 at h1 hl
  generalize Lib.isDigitU (r : Int) = b2 at h2 hl
  generalize Lib.isMarkU (r : Int) = b3 at h3 hl
  have Hl := Lib.hid hl; have H1 := Lib.hid h1; have H2 := Lib.hid h2; have H3 := Lib.hid h3
  clear hl h1 h2 h3
  go_enter Tryz.func133, Tryz.ntmps133
  go_wp2_with fail
  refine H1.out.mono ?_
  rintro e w1 ⟨rfl, hb1⟩
  cases b1 with
  | true =>
    go_wp2
    go_ret
    exact ⟨ret_bool (by rw [Hl.out]; rfl), hb1⟩
  | false =>
    go_wp2_with fail
    refine (H2.out _ hb1).mono ?_
    rintro e w2 ⟨rfl, hb2⟩
    have hb12 := below2 hb1 hb2
    cases b2 with
    | true =>
      go_wp2
      go_ret
      exact ⟨ret_bool (by rw [Hl.out]; rfl), hb12⟩
    | false =>
      go_wp2_with fail
      refine (H3.out _ hb12).mono ?_
      rintro e w3 ⟨rfl, hb3⟩
      go_wp2
      go_ret
      exact ⟨ret_bool (by rw [Hl.out]; simp), below2 hb12 hb3⟩
theorem notL_ok (r : Nat) (hr : r ≤ 1114111) (w : World) (hT : TabsU w) : Calls Tryz.prog 132 #[.int .i32 (r : Int)] w fun e w' => e = .returned (.bool (!Sm.isL r)) ∧ Below w.heap.size w w' := by
  have h1 := chLetter_ok r hr w hT
  clear hT
  generalize Sm.isL r = b1 at h1 ⊢
  have H1 := Lib.hid h1
  clear h1
  go_enter Tryz.func132, Tryz.ntmps132
  go_wp2_with fail
  refine H1.out.mono ?_
  rintro e w1 ⟨rfl, hb1⟩
  go_wp2
  go_ret
  exact ⟨rfl, hb1⟩
theorem isL_bad : Sm.isL 65533 = false := by kernel_rfl
theorem inWord_ok (r : Nat) (hr : r ≤ 1114111) (w : World) (hT : TabsU w) : Calls Tryz.prog 67 #[.int .i32 (r : Int)] w fun e w' => e = .returned (.bool (Sm.isL r)) ∧ Below w.heap.size w w' := by
  by_cases hbad : r = 65533
  · subst hbad
    rw [isL_bad]
    go_enter Tryz.func67, Tryz.ntmps67
    go_wp2
    go_ret
    exact ⟨rfl, Below.refl _ _⟩
  have hne : ((r : Int) != 65533) = true := by rw [bne_iff_ne]; omega
  have h1 := Tryz.unicode_IsLetter_all (r : Int) w (by omega) (by omega) hT.props hT.letter
  have h2 := fun W hb => Tryz.unicode_IsDigit_all (r : Int) W (by omega) (by omega) (hT.ext hb).digit
  have h3 := fun W hb => Tryz.unicode_IsMark_all (r : Int) W (by omega) (by omega) (hT.ext hb).mark
  have hl : Sm.isL r = (Lib.isLetterU (r : Int) || Lib.isDigitU (r : Int) || Lib.isMarkU (r : Int)) := rfl
  clear hT
  generalize Lib.isLetterU (r : Int) = b1 at h1 hl
  generalize Lib.isDigitU (r : Int) = b2 at h2 hl
  generalize Lib.isMarkU (r : Int) = b3 at h3 hl
  have Hl := Lib.hid hl; have H1 := Lib.hid h1; have H2 := Lib.hid h2; have H3 := Lib.hid h3
  clear hl h1 h2 h3
  go_enter Tryz.func67, Tryz.ntmps67
  go_wp2_with fail
  refine H1.out.mono ?_
  rintro e w1 ⟨rfl, hb1⟩
  cases b1 with
  | true =>
    go_wp2
    go_ret
    exact ⟨ret_bool (by rw [Hl.out]; rfl), hb1⟩
  | false =>
    go_wp2_with fail
    refine (H2.out _ hb1).mono ?_
    rintro e w2 ⟨rfl, hb2⟩
    have hb12 := below2 hb1 hb2
    cases b2 with
    | true =>
      go_wp2
      go_ret
      exact ⟨ret_bool (by rw [Hl.out]; rfl), hb12⟩
    | false =>
      go_wp2_with fail
      refine (H3.out _ hb12).mono ?_
      rintro e w3 ⟨rfl, hb3⟩
      go_wp2
      go_ret
      exact ⟨ret_bool (by rw [Hl.out]; simp), below2 hb12 hb3⟩
end Go.Proofs.YtngdfjlodblagaaGreatDoor
/-
  From a row's listed variables to the tables.
-/
namespace Go.Proofs.YtngdfjlodblagaaGreatDoor
open Go.RowKit Go.Lib Go.Shelf
set_option linter.unusedVariables false
theorem tabIs_of_reads {P : Program} {W : World} {name : String} {k : IntKind} {zs : List Int} {g : Nat} {t e : TypeId} {n : Nat}
    (hg : P.globalNamed name = some g) (hty : (P.globals[g]?).map (·.type) = some t) (ht : P.underlying t = some (.array n e)) (he : P.underlying e = some (.int k)) (hce : P.cellsOf e = 1) (hct : P.cellsOf t = n)
    (h : VarReads P W name (tabData k zs)) : TabIs P W name k zs := by
  obtain ⟨g', t', cs, fuel, p, hg', ht', hvar, hd⟩ := h
  obtain rfl := Option.some.inj (hg.symm.trans hg')
  obtain rfl := Option.some.inj (hty.symm.trans ht')
  unfold TabIs
  rw [hvar, ← cells_of_tab ht he hce hct hd]
theorem acc_eq : (Rows.laid_unicode_utf8_acceptRanges : DataW Unit) = acceptData := by kernel_rfl
theorem prop_eq : (Rows.laid_unicode_properties : DataW Unit) = tabData .u8 Lib.propertiesTab := by kernel_rfl
theorem case_eq : Rows.laid_unicode_CaseRanges = caseData := Pinned.caseRanges_eq
theorem letter_eq : Rows.laid_unicode_Letter = rtabData letterT := Pinned.letter_eq
theorem digit_eq : Rows.laid_unicode_Digit = rtabData digitT := Pinned.digit_eq
theorem mark_eq : Rows.laid_unicode_Mark = rtabData markT := Pinned.mark_eq
theorem first_eq : Rows.laid_unicode_utf8_first = firstData := Pinned.utf8First_eq
theorem tabs_of {l : List (String × DataW Unit)} {W : World} (hL : laidMet Tryz.prog l W)
    (m1 : ("unicode/utf8.first", Rows.laid_unicode_utf8_first) ∈ l) (m2 : ("unicode/utf8.acceptRanges", (Rows.laid_unicode_utf8_acceptRanges : DataW Unit)) ∈ l) (m3 : ("unicode.properties", (Rows.laid_unicode_properties : DataW Unit)) ∈ l)
    (m4 : ("unicode.CaseRanges", Rows.laid_unicode_CaseRanges) ∈ l) (m5 : ("unicode.Letter", Rows.laid_unicode_Letter) ∈ l) (m6 : ("unicode.Digit", Rows.laid_unicode_Digit) ∈ l) (m7 : ("unicode.Mark", Rows.laid_unicode_Mark) ∈ l) : TabsU W where
  u8 := utf8Tabs_of_reads Tryz.lays260 ⟨by kernel_rfl, by kernel_rfl, by kernel_rfl, by kernel_rfl, by kernel_rfl, by kernel_rfl, by kernel_rfl⟩ (first_eq ▸ Lib.laidMet.reads hL m1) (acc_eq ▸ Lib.laidMet.reads hL m2)
  case := caseVar_of_reads (ρ := Tryz.lays204_ren) { Tryz.lays204 with } (by kernel_rfl) ⟨by kernel_rfl, by kernel_rfl, by kernel_rfl, by kernel_rfl, by kernel_rfl, by kernel_rfl⟩ (case_eq ▸ Lib.laidMet.reads hL m4)
  props := tabIs_of_reads (g := 3) (t := 153) (e := 5) (n := 256) (by kernel_rfl) (by kernel_rfl) (by kernel_rfl) (by kernel_rfl) (by kernel_rfl) (by kernel_rfl) (prop_eq ▸ Lib.laidMet.reads hL m3)
  letter := rvar_of_reads Tryz.lays261 ⟨by kernel_rfl, by kernel_rfl, by kernel_rfl, by kernel_rfl, by kernel_rfl, by kernel_rfl, by kernel_rfl, by kernel_rfl⟩ (by kernel_rfl) (by kernel_rfl) (letter_eq ▸ Lib.laidMet.reads hL m5)
  digit := rvar_of_reads Tryz.lays261 ⟨by kernel_rfl, by kernel_rfl, by kernel_rfl, by kernel_rfl, by kernel_rfl, by kernel_rfl, by kernel_rfl, by kernel_rfl⟩ (by kernel_rfl) (by kernel_rfl) (digit_eq ▸ Lib.laidMet.reads hL m6)
  mark := rvar_of_reads Tryz.lays261 ⟨by kernel_rfl, by kernel_rfl, by kernel_rfl, by kernel_rfl, by kernel_rfl, by kernel_rfl, by kernel_rfl, by kernel_rfl⟩ (by kernel_rfl) (by kernel_rfl) (mark_eq ▸ Lib.laidMet.reads hL m7)
end Go.Proofs.YtngdfjlodblagaaGreatDoor
/-
  Sorted lists of keys and values: look-up, insertion, removal; two of the same look-ups are one. No program is named here.
-/
namespace Go.Proofs.YtngdfjlodblagaaGreatDoor
namespace Al
/-- a strict order in which any two keys are compared -/
structure Tot {K : Type} (lt : K → K → Bool) : Prop where
  irrefl : ∀ a, lt a a = false
  trans : ∀ a b c, lt a b = true → lt b c = true → lt a c = true
  total : ∀ a b, lt a b = false → lt b a = false → a = b
variable {K V : Type} {lt : K → K → Bool}
theorem Tot.asymm (h : Tot lt) {a b : K} (hab : lt a b = true) : lt b a = false := by
  cases hb : lt b a with
  | false => rfl
  | true => have := h.trans _ _ _ hab hb; rw [h.irrefl] at this; cases this
theorem Tot.ne (h : Tot lt) {a b : K} (hab : lt a b = true) : a ≠ b := by
  intro e
  subst e
  rw [h.irrefl] at hab
  cases hab
def Sorted (lt : K → K → Bool) (l : List (K × V)) : Prop := l.Pairwise fun a b => lt a.1 b.1 = true
theorem sorted_filter {l : List (K × V)} (hs : Sorted lt l) (p : K × V → Bool) : Sorted lt (l.filter p) := List.Pairwise.sublist List.filter_sublist hs
theorem sorted_map {W : Type} (g : V → W) {l : List (K × V)} (hs : Sorted lt l) : Sorted lt (l.map fun p => (p.1, g p.2)) := by
  unfold Sorted
  rw [List.pairwise_map]
  exact hs
variable [DecidableEq K]
def look : List (K × V) → K → Option V
  | [], _ => none
  | p :: l, k => if p.1 = k then some p.2 else look l k
theorem look_none {l : List (K × V)} {k : K} (h : ∀ p ∈ l, p.1 ≠ k) : look l k = none := by
  induction l with
  | nil => rfl
  | cons p l ih =>
    rw [look, if_neg (h p List.mem_cons_self)]
    exact ih fun q hq => h q (List.mem_cons_of_mem _ hq)
theorem look_mem {l : List (K × V)} {k : K} {v : V} (h : look l k = some v) : (k, v) ∈ l := by
  induction l with
  | nil => cases h
  | cons p l ih =>
    rw [look] at h
    split at h
    · rename_i e
      injection h with h
      have : p.1 = k := e
      rw [← this, ← h]
      exact List.mem_cons_self
    · exact List.mem_cons_of_mem _ (ih h)
theorem look_of_mem (ht : Tot lt) {l : List (K × V)} (hs : Sorted lt l) {k : K} {v : V} (h : (k, v) ∈ l) : look l k = some v := by
  induction l with
  | nil => cases h
  | cons p l ih =>
    unfold Sorted at hs
    rw [List.pairwise_cons] at hs
    rw [look]
    rcases List.mem_cons.1 h with e | e
    · subst e; simp
    · have := ht.ne (hs.1 _ e)
      rw [if_neg this]
      exact ih hs.2 e
theorem look_none_iff {l : List (K × V)} {k : K} : look l k = none ↔ ∀ p ∈ l, p.1 ≠ k := by
  refine ⟨fun h p hp e => ?_, look_none⟩
  induction l with
  | nil => cases hp
  | cons q l ih =>
    rw [look] at h
    split at h
    · cases h
    · rename_i e2
      rcases List.mem_cons.1 hp with e3 | e3
      · subst e3; exact e2 e
      · exact ih h e3
/-- one of the same look-ups -/
theorem ext (ht : Tot lt) : ∀ {l l' : List (K × V)}, Sorted lt l → Sorted lt l' → (∀ k, look l k = look l' k) → l = l'
  | [], [], _, _, _ => rfl
  | [], p :: l', _, _, h => by have := h p.1; simp [look] at this
  | p :: l, [], _, _, h => by have := h p.1; simp [look] at this
  | p :: l, q :: l', hs, hs', h => by
    have hs0 := hs
    have hs0' := hs'
    unfold Sorted at hs hs'
    rw [List.pairwise_cons] at hs hs'
    have hpq : p.1 = q.1 := by
      apply ht.total
      · cases hlt : lt p.1 q.1 with
        | false => rfl
        | true =>
          exfalso
          have h1 := h p.1
          rw [look_of_mem ht hs0 (show (p.1, p.2) ∈ p :: l from List.mem_cons_self)] at h1
          have h2 := look_mem h1.symm
          rcases List.mem_cons.1 h2 with e | e
          · exact ht.ne hlt (by rw [← e])
          · have := ht.asymm (hs'.1 _ e); simp only at this; rw [hlt] at this; cases this
      · cases hlt : lt q.1 p.1 with
        | false => rfl
        | true =>
          exfalso
          have h1 := h q.1
          rw [look_of_mem ht hs0' (show (q.1, q.2) ∈ q :: l' from List.mem_cons_self)] at h1
          have h2 := look_mem h1
          rcases List.mem_cons.1 h2 with e | e
          · exact ht.ne hlt (by rw [← e])
          · have := ht.asymm (hs.1 _ e); simp only at this; rw [hlt] at this; cases this
    have hv : p.2 = q.2 := by
      have h1 := h p.1
      rw [look, look, hpq] at h1
      simpa using h1
    have : p = q := Prod.ext hpq hv
    subst this
    congr 1
    refine ext ht hs.2 hs'.2 fun k => ?_
    have h1 := h k
    rw [look, look] at h1
    split at h1
    · rename_i e
      have e' : p.1 = k := e
      rw [look_none fun r hr e2 => ht.ne (hs.1 r hr) (e'.trans e2.symm), look_none fun r hr e2 => ht.ne (hs'.1 r hr) (e'.trans e2.symm)]
    · exact h1
/-- the value at a key is made anew -/
def upd (lt : K → K → Bool) (f : Option V → V) (k : K) : List (K × V) → List (K × V)
  | [] => [(k, f none)]
  | p :: l => if lt p.1 k then p :: upd lt f k l else if p.1 = k then (k, f (some p.2)) :: l else (k, f none) :: p :: l
theorem key_upd {f : Option V → V} {k : K} {l : List (K × V)} {q : K × V} (h : q ∈ upd lt f k l) : q.1 = k ∨ q ∈ l := by
  induction l with
  | nil => simp [upd] at h; subst h; exact .inl rfl
  | cons p l ih =>
    rw [upd] at h
    split at h
    · rcases List.mem_cons.1 h with e | e
      · exact .inr (e ▸ List.mem_cons_self)
      · exact (ih e).imp id fun h => List.mem_cons_of_mem _ h
    · split at h
      · rcases List.mem_cons.1 h with e | e
        · subst e; exact .inl rfl
        · exact .inr (List.mem_cons_of_mem _ e)
      · rcases List.mem_cons.1 h with e | e
        · subst e; exact .inl rfl
        · exact .inr e
theorem sorted_upd (ht : Tot lt) {f : Option V → V} {k : K} {l : List (K × V)} (hs : Sorted lt l) : Sorted lt (upd lt f k l) := by
  induction l with
  | nil => unfold Sorted; simp [upd]
  | cons p l ih =>
    have hs0 := hs
    unfold Sorted at hs
    rw [List.pairwise_cons] at hs
    rw [upd]
    unfold Sorted
    split
    · rename_i hlt
      refine List.pairwise_cons.2 ⟨fun q hq => ?_, ih hs.2⟩
      rcases key_upd hq with e | e
      · rw [e]; exact hlt
      · exact hs.1 _ e
    · rename_i hlt
      split
      · rename_i e
        have e' : p.1 = k := e
        exact List.pairwise_cons.2 ⟨fun q hq => by rw [← e']; exact hs.1 q hq, hs.2⟩
      · rename_i e
        have hkp : lt k p.1 = true := by
          cases h : lt k p.1 with
          | true => rfl
          | false => exact absurd (ht.total _ _ (by simpa using hlt) h) e
        refine List.pairwise_cons.2 ⟨fun q hq => ?_, hs0⟩
        rcases List.mem_cons.1 hq with e2 | e2
        · rw [e2]; exact hkp
        · exact ht.trans _ _ _ hkp (hs.1 _ e2)
theorem look_upd (ht : Tot lt) {f : Option V → V} {k : K} {l : List (K × V)} (hs : Sorted lt l) (k' : K) : look (upd lt f k l) k' = if k' = k then some (f (look l k)) else look l k' := by
  induction l with
  | nil =>
    rw [upd, look]
    by_cases h : k' = k
    · subst h; simp [look]
    · have : ¬ k = k' := fun e => h e.symm
      simp [look, h, this]
  | cons p l ih =>
    have hs0 := hs
    unfold Sorted at hs
    rw [List.pairwise_cons] at hs
    rw [upd]
    split
    · rename_i hlt
      have hne := ht.ne hlt
      have e1 : ¬ p.1 = k := hne
      rw [look, ih hs.2]
      by_cases h : k' = k
      · subst h
        simp [look, e1]
      · simp only [h, if_false, look]
    · rename_i hlt
      split
      · rename_i e
        have e' : p.1 = k := e
        rw [look]
        by_cases h : k' = k
        · subst h
          simp [look, e]
        · have h2 : ¬ k = k' := fun e => h e.symm
          have h3 : ¬ p.1 = k' := by rw [e']; exact h2
          simp [look, h, h2, h3]
      · rename_i e
        have hkp : lt k p.1 = true := by
          cases h : lt k p.1 with
          | true => rfl
          | false => exact absurd (ht.total _ _ (by simpa using hlt) h) e
        have hn : look (p :: l) k = none := look_none fun q hq e2 => by
          rcases List.mem_cons.1 hq with e3 | e3
          · subst e3; exact ht.ne hkp e2.symm
          · exact ht.ne (ht.trans _ _ _ hkp (hs.1 _ e3)) e2.symm
        rw [look, hn]
        by_cases h : k' = k
        · subst h; simp
        · have h2 : ¬ k = k' := fun e => h e.symm
          simp [h, h2]
theorem look_filter (ht : Tot lt) {l : List (K × V)} (hs : Sorted lt l) (p : K × V → Bool) (k : K) : look (l.filter p) k = (look l k).bind fun v => if p (k, v) then some v else none := by
  cases h : look l k with
  | none =>
    rw [look_none_iff] at h
    exact look_none fun q hq => h q (List.mem_filter.1 hq).1
  | some v =>
    have hm := look_mem h
    show _ = if p (k, v) then some v else none
    split
    · rename_i hp
      exact look_of_mem ht (sorted_filter hs p) (List.mem_filter.2 ⟨hm, hp⟩)
    · rename_i hp
      refine look_none fun q hq e => hp ?_
      obtain ⟨h1, h2⟩ := List.mem_filter.1 hq
      have h3 := look_of_mem ht hs (show (q.1, q.2) ∈ l from h1)
      rw [e, h] at h3
      injection h3 with h3
      rw [h3, ← e]
      exact h2
/-- values turned in place -/
theorem look_map {W : Type} (g : V → W) (l : List (K × V)) (k : K) : look (l.map fun p => (p.1, g p.2)) k = (look l k).map g := by
  induction l with
  | nil => rfl
  | cons p l ih =>
    rw [List.map_cons, look, look, ih]
    split <;> rfl
/-- upd by a position: what stands ahead of it is smaller, what stands there and behind is not -/
theorem upd_at (ht : Tot lt) {f : Option V → V} {k : K} : ∀ {l : List (K × V)}, Sorted lt l → ∀ (i : Nat), i ≤ l.length → (∀ (m : Nat) (h : m < l.length), m < i → lt l[m].1 k = true) → (∀ (h : i < l.length), lt l[i].1 k = false) →
    upd lt f k l = l.take i ++ (match l[i]? with | some p => if p.1 = k then (k, f (some p.2)) :: l.drop (i + 1) else (k, f none) :: l.drop i | none => [(k, f none)])
  | [], _, i, hi, _, _ => by
    have : i = 0 := by simpa using hi
    subst this
    simp [upd]
  | p :: l, hs, 0, _, _, h2 => by
    have h3 := h2 (by simp)
    simp only [List.getElem_cons_zero] at h3
    rw [upd, if_neg (by rw [h3]; simp)]
    simp
  | p :: l, hs, i + 1, hi, h1, h2 => by
    have h3 := h1 0 (by simp) (by omega)
    simp only [List.getElem_cons_zero] at h3
    unfold Sorted at hs
    rw [List.pairwise_cons] at hs
    rw [upd, if_pos h3, upd_at ht hs.2 i (by simpa using hi) (fun m hm hmi => h1 (m + 1) (by simpa using hm) (by omega)) (fun h => h2 (by simpa using h))]
    simp
end Al
theorem tot_int : Al.Tot (fun a b : Int => decide (a < b)) where
  irrefl a := by simp
  trans a b c h1 h2 := by simp at h1 h2 ⊢; omega
  total a b h1 h2 := by simp at h1 h2; omega
theorem tot_str : Al.Tot ltS where
  irrefl := ltS_irrefl
  trans a b c := ltS_trans
  total a b h1 h2 := by
    rcases ltS_total a b with h | h | h
    · rw [h] at h1; cases h1
    · exact h
    · rw [h] at h2; cases h2
end Go.Proofs.YtngdfjlodblagaaGreatDoor
/-
  Indexes: what the code and the reference compute; plain.
-/
namespace Go.Proofs.YtngdfjlodblagaaGreatDoor
namespace Ix
abbrev Post := Int × List Int
abbrev Term := Str × List Post
abbrev Idx := List Int × List Term
def ltI (a b : Int) : Bool := decide (a < b)
theorem totI : Al.Tot ltI := tot_int
/-- number i of a list is in its range, and greater than the one ahead of it -/
def okAt (l : List Int) (low : Int) (i : Nat) : Bool := (decide (low ≤ l.getD i 0) && decide (l.getD i 0 ≤ 1000000)) && (decide (i = 0) || decide (l.getD (i - 1) 0 < l.getD i 0))
def rising (l : List Int) (low : Int) : Bool := (List.range l.length).all (okAt l low)
theorem rising_iff (l : List Int) (low : Int) : rising l low = true ↔ l.Pairwise (· < ·) ∧ ∀ n ∈ l, low ≤ n ∧ n ≤ 1000000 := by
  unfold rising
  rw [List.all_eq_true]
  constructor
  · intro h
    have hi : ∀ i (hi : i < l.length), low ≤ l[i] ∧ l[i] ≤ 1000000 ∧ ∀ (h0 : 0 < i), l[i - 1] < l[i] := by
      intro i hi
      have := h i (List.mem_range.2 hi)
      unfold okAt at this
      rw [List.getD_eq_getElem?_getD, List.getElem?_eq_getElem hi, Option.getD_some] at this
      simp only [Bool.and_eq_true, Bool.or_eq_true, decide_eq_true_eq] at this
      refine ⟨this.1.1, this.1.2, fun h0 => ?_⟩
      rcases this.2 with e | e
      · omega
      · rw [List.getD_eq_getElem?_getD, List.getElem?_eq_getElem (by omega), Option.getD_some] at e
        exact e
    have key : ∀ (j i : Nat) (hij : i < j) (hj : j < l.length), l[i] < l[j] := by
      intro j
      induction j with
      | zero => intro i hij; omega
      | succ j ih =>
        intro i hij hj
        have h1 := (hi (j + 1) hj).2.2 (by omega)
        simp only [Nat.add_sub_cancel] at h1
        by_cases e : i = j
        · subst e; exact h1
        · exact Int.lt_trans (ih i (by omega) (by omega)) h1
    refine ⟨List.pairwise_iff_getElem.2 fun i j hi' hj' hij => key j i hij hj', fun n hn => ?_⟩
    obtain ⟨i, hi', rfl⟩ := List.mem_iff_getElem.1 hn
    exact ⟨(hi i hi').1, (hi i hi').2.1⟩
  · rintro ⟨hp, hr⟩ i hi
    have hi := List.mem_range.1 hi
    unfold okAt
    rw [List.getD_eq_getElem?_getD, List.getElem?_eq_getElem hi, Option.getD_some]
    have h1 := hr _ (List.getElem_mem hi)
    simp only [Bool.and_eq_true, Bool.or_eq_true, decide_eq_true_eq]
    refine ⟨h1, ?_⟩
    by_cases h0 : i = 0
    · exact .inl h0
    · right
      rw [List.getD_eq_getElem?_getD, List.getElem?_eq_getElem (show i - 1 < l.length by omega), Option.getD_some]
      exact List.pairwise_iff_getElem.1 hp (i - 1) i (by omega) hi (by omega)
/-- the code of the first error of postings -/
def postErr (ids : List Int) : List Post → Int
  | [] => 0
  | p :: r => if p.2.length = 0 ∨ rising p.2 0 = false then 19 else if ids.contains p.1 = false then 6 else postErr ids r
def wordBad (ts : List Term) (i : Nat) : Bool := decide (0 < i) && !ltS (ts.getD (i - 1) ([], [])).1 (ts.getD i ([], [])).1
def termErr (ids : List Int) (ts : List Term) (i : Nat) : Int :=
  if postErr ids (ts.getD i ([], [])).2 ≠ 0 then postErr ids (ts.getD i ([], [])).2
  else if (ts.getD i ([], [])).1.length = 0 ∨ 8000 < (ts.getD i ([], [])).1.length then 10
  else if (ts.getD i ([], [])).2.length = 0 ∨ rising ((ts.getD i ([], [])).2.map fun p => p.1) 1 = false ∨ wordBad ts i = true then 19 else 0
def faultGo (x : Idx) : Nat → Nat → Int × Int
  | 0, _ => (0, 0)
  | f + 1, k => if termErr x.1 x.2 k = 0 then faultGo x f (k + 1) else (termErr x.1 x.2 k, (k : Int))
def indexF (x : Idx) : Int × Int := if 300 < x.1.length then (2, -1) else if rising x.1 1 = false then (19, -1) else if 1000000 < x.2.length then (2, -2) else faultGo x x.2.length 0
/-- what a valid index is -/
structure Canon (x : Idx) : Prop where
  few : x.1.length ≤ 300
  ids : x.1.Pairwise (· < ·)
  idr : ∀ n ∈ x.1, 1 ≤ n ∧ n ≤ 1000000
  many : x.2.length ≤ 1000000
  srt : Al.Sorted ltS x.2
  word : ∀ t ∈ x.2, t.1 ≠ [] ∧ t.1.length ≤ 8000
  post : ∀ t ∈ x.2, t.2 ≠ [] ∧ Al.Sorted ltI t.2 ∧ ∀ p ∈ t.2, p.1 ∈ x.1 ∧ p.2 ≠ [] ∧ p.2.Pairwise (· < ·) ∧ ∀ n ∈ p.2, 0 ≤ n ∧ n ≤ 1000000
theorem postErr_zero (ids : List Int) : ∀ ps : List Post, postErr ids ps = 0 ↔ ∀ p ∈ ps, p.1 ∈ ids ∧ p.2 ≠ [] ∧ rising p.2 0 = true
  | [] => by simp [postErr]
  | p :: r => by
    rw [postErr]
    by_cases h1 : p.2.length = 0 ∨ rising p.2 0 = false
    · rw [if_pos h1]
      constructor
      · intro h; omega
      · intro h
        obtain ⟨_, h2, h3⟩ := h p List.mem_cons_self
        rcases h1 with h1 | h1
        · exact absurd (List.eq_nil_of_length_eq_zero h1) h2
        · rw [h3] at h1; cases h1
    · rw [if_neg h1]
      have h1' : p.2 ≠ [] ∧ rising p.2 0 = true := ⟨fun e => h1 (.inl (by rw [e]; rfl)), by cases h : rising p.2 0 with | true => rfl | false => exact absurd (.inr h) h1⟩
      by_cases h2 : ids.contains p.1 = false
      · rw [if_pos h2]
        constructor
        · intro h; omega
        · intro h
          have := (h p List.mem_cons_self).1
          rw [List.contains_iff_mem.2 this] at h2; cases h2
      · rw [if_neg h2, postErr_zero ids r]
        have h2' : p.1 ∈ ids := by simpa using h2
        constructor
        · intro h q hq
          rcases List.mem_cons.1 hq with e | e
          · subst e; exact ⟨h2', h1'⟩
          · exact h q e
        · exact fun h q hq => h q (List.mem_cons_of_mem _ hq)
theorem pair_sorted (ps : List Post) : (ps.map fun p => p.1).Pairwise (· < ·) ↔ Al.Sorted ltI ps := by
  unfold Al.Sorted ltI
  rw [List.pairwise_map]
  simp
theorem faultGo_zero (x : Idx) : ∀ (f k : Nat), (faultGo x f k).1 = 0 ↔ ∀ j, k ≤ j → j < k + f → termErr x.1 x.2 j = 0
  | 0, k => by
    refine ⟨fun _ j h1 h2 => by omega, fun _ => rfl⟩
  | f + 1, k => by
    rw [faultGo]
    split
    · rename_i h0
      rw [faultGo_zero x f (k + 1)]
      constructor
      · intro h j h1 h2
        by_cases e : j = k
        · rw [e]; exact h0
        · exact h j (by omega) (by omega)
      · exact fun h j h1 h2 => h j (by omega) (by omega)
    · rename_i h0
      constructor
      · intro h; exact absurd h h0
      · intro h; exact absurd (h k (by omega) (by omega)) h0
theorem faultGo_zero2 (x : Idx) : ∀ (f k : Nat), (faultGo x f k).1 = 0 → faultGo x f k = (0, 0)
  | 0, _, _ => rfl
  | f + 1, k, h => by
    rw [faultGo] at h ⊢
    split at h
    · rename_i h0; rw [if_pos h0]; exact faultGo_zero2 x f (k + 1) h
    · rename_i h0; exact absurd h h0
theorem getD_get {α : Type} {l : List α} {i : Nat} (h : i < l.length) (d : α) : l.getD i d = l[i] := by
  rw [List.getD_eq_getElem?_getD, List.getElem?_eq_getElem h, Option.getD_some]
theorem termErr_zero (ids : List Int) (ts : List Term) (i : Nat) (hi : i < ts.length) : termErr ids ts i = 0 ↔
    (∀ p ∈ ts[i].2, p.1 ∈ ids ∧ p.2 ≠ [] ∧ rising p.2 0 = true) ∧ (ts[i].1 ≠ [] ∧ ts[i].1.length ≤ 8000) ∧ ts[i].2 ≠ [] ∧ rising (ts[i].2.map fun p => p.1) 1 = true ∧ ∀ (h0 : 0 < i), ltS ts[i - 1].1 ts[i].1 = true := by
  unfold termErr
  rw [getD_get hi, ← postErr_zero]
  by_cases h1 : postErr ids ts[i].2 ≠ 0
  · rw [if_pos h1]
    exact ⟨fun h => absurd h h1, fun h => absurd h.1 h1⟩
  · rw [if_neg h1]
    have h1' : postErr ids ts[i].2 = 0 := by simpa using h1
    by_cases h2 : ts[i].1.length = 0 ∨ 8000 < ts[i].1.length
    · rw [if_pos h2]
      constructor
      · intro h; omega
      · rintro ⟨_, ⟨h3, h4⟩, _⟩
        rcases h2 with h2 | h2
        · exact absurd (List.eq_nil_of_length_eq_zero h2) h3
        · omega
    · rw [if_neg h2]
      have h2' : ts[i].1 ≠ [] ∧ ts[i].1.length ≤ 8000 := ⟨fun e => h2 (.inl (by rw [e]; rfl)), by omega⟩
      have hw : wordBad ts i = true ↔ ∃ (h0 : 0 < i), ltS ts[i - 1].1 ts[i].1 = false := by
        unfold wordBad
        rw [getD_get hi]
        by_cases h0 : 0 < i
        · rw [getD_get (show i - 1 < ts.length by omega)]
          simp [h0]
        · simp [h0]
      by_cases h3 : ts[i].2.length = 0 ∨ rising (ts[i].2.map fun p => p.1) 1 = false ∨ wordBad ts i = true
      · rw [if_pos h3]
        constructor
        · intro h; omega
        · rintro ⟨_, _, h4, h5, h6⟩
          rcases h3 with h3 | h3 | h3
          · exact absurd (List.eq_nil_of_length_eq_zero h3) h4
          · rw [h5] at h3; cases h3
          · obtain ⟨h0, h7⟩ := hw.1 h3
            rw [h6 h0] at h7; cases h7
      · rw [if_neg h3]
        refine ⟨fun _ => ⟨h1', h2', fun e => h3 (.inl (by rw [e]; rfl)), ?_, fun h0 => ?_⟩, fun _ => rfl⟩
        · cases h : rising (ts[i].2.map fun p => p.1) 1 with
          | true => rfl
          | false => exact absurd (.inr (.inl h)) h3
        · cases h : ltS ts[i - 1].1 ts[i].1 with
          | true => rfl
          | false => exact absurd (.inr (.inr (hw.2 ⟨h0, h⟩))) h3
theorem sorted_adj {ts : List Term} (h : ∀ (i : Nat) (hi : i < ts.length) (h0 : 0 < i), ltS ts[i - 1].1 ts[i].1 = true) : Al.Sorted ltS ts := by
  have key : ∀ (j i : Nat) (hij : i < j) (hj : j < ts.length), ltS ts[i].1 ts[j].1 = true := by
    intro j
    induction j with
    | zero => intro i hij; omega
    | succ j ih =>
      intro i hij hj
      have h1 := h (j + 1) hj (by omega)
      simp only [Nat.add_sub_cancel] at h1
      by_cases e : i = j
      · subst e; exact h1
      · exact tot_str.trans _ _ _ (ih i (by omega) (by omega)) h1
  exact List.pairwise_iff_getElem.2 fun i j hi hj hij => key j i hij hj
theorem indexF_zero (x : Idx) : (indexF x).1 = 0 ↔ Canon x := by
  unfold indexF
  by_cases h1 : 300 < x.1.length
  · rw [if_pos h1]
    refine ⟨fun h => ?_, fun h => ?_⟩
    · simp only at h; omega
    · have := h.few; omega
  rw [if_neg h1]
  by_cases h2 : rising x.1 1 = false
  · rw [if_pos h2]
    refine ⟨fun h => ?_, fun h => ?_⟩
    · simp only at h; omega
    · rw [(rising_iff _ _).2 ⟨h.ids, h.idr⟩] at h2; cases h2
  rw [if_neg h2]
  have h2' := (rising_iff _ _).1 (by simpa using h2)
  by_cases h3 : 1000000 < x.2.length
  · rw [if_pos h3]
    refine ⟨fun h => ?_, fun h => ?_⟩
    · simp only at h; omega
    · have := h.many; omega
  rw [if_neg h3, faultGo_zero]
  constructor
  · intro h
    have ht := fun (i : Nat) (hi : i < x.2.length) => (termErr_zero x.1 x.2 i hi).1 (h i (by omega) (by omega))
    refine ⟨by omega, h2'.1, h2'.2, by omega, sorted_adj fun i hi h0 => (ht i hi).2.2.2.2 h0, fun t htm => ?_, fun t htm => ?_⟩
    · obtain ⟨i, hi, rfl⟩ := List.mem_iff_getElem.1 htm
      exact (ht i hi).2.1
    · obtain ⟨i, hi, rfl⟩ := List.mem_iff_getElem.1 htm
      obtain ⟨a, b, c, d, e⟩ := ht i hi
      refine ⟨c, (pair_sorted _).1 ((rising_iff _ _).1 d).1, fun p hp => ?_⟩
      obtain ⟨h4, h5, h6⟩ := a p hp
      exact ⟨h4, h5, (rising_iff _ _).1 h6⟩
  · intro h j _ hj
    have hj' : j < x.2.length := by omega
    have hm := List.getElem_mem hj'
    obtain ⟨h4, h5, h6⟩ := h.post _ hm
    refine (termErr_zero x.1 x.2 j hj').2 ⟨fun p hp => ?_, h.word _ hm, h4, ?_, fun h0 => List.pairwise_iff_getElem.1 h.srt (j - 1) j (by omega) hj' (by omega)⟩
    · obtain ⟨a, b, c⟩ := h6 p hp
      exact ⟨a, b, (rising_iff _ _).2 c⟩
    · refine (rising_iff _ _).2 ⟨(pair_sorted _).2 h5, fun n hn => ?_⟩
      obtain ⟨p, hp, rfl⟩ := List.mem_map.1 hn
      exact h.idr _ (h6 p hp).1
theorem indexF_zero2 {x : Idx} (h : (indexF x).1 = 0) : indexF x = (0, 0) := by
  have hc := (indexF_zero x).1 h
  have h2 : rising x.1 1 = true := (rising_iff _ _).2 ⟨hc.ids, hc.idr⟩
  have h1 := hc.few
  have h3 := hc.many
  unfold indexF at h ⊢
  rw [if_neg (by omega), if_neg (by rw [h2]; simp), if_neg (by omega)] at h ⊢
  exact faultGo_zero2 _ _ _ h
/-! ### what is at a place -/
def cont (ts : List Term) (w : Str) (i : Int) : List Int := ((Al.look ts w).bind fun ps => Al.look ps i).getD []
structure Wf (ts : List Term) : Prop where
  srt : Al.Sorted ltS ts
  post : ∀ t ∈ ts, t.2 ≠ [] ∧ Al.Sorted ltI t.2 ∧ ∀ p ∈ t.2, p.2 ≠ []
theorem Canon.wf {x : Idx} (h : Canon x) : Wf x.2 := ⟨h.srt, fun t ht => ⟨(h.post t ht).1, (h.post t ht).2.1, fun p hp => ((h.post t ht).2.2 p hp).2.1⟩⟩
theorem Wf.ext {ts ts' : List Term} (h : Wf ts) (h' : Wf ts') (hc : ∀ w i, cont ts w i = cont ts' w i) : ts = ts' := by
  have some_of : ∀ {ts ts' : List Term} (_ : Wf ts) (_ : Wf ts') (_ : ∀ w i, cont ts w i = cont ts' w i) (w : Str) (ps : List Post), Al.look ts w = some ps → ∃ ps', Al.look ts' w = some ps' := by
    intro ts ts' h h' hc w ps hw
    have hm := Al.look_mem hw
    obtain ⟨h1, h2, h3⟩ := h.post _ hm
    simp only at h1 h2 h3
    obtain ⟨p, r, rfl⟩ : ∃ p r, ps = p :: r := by cases ps with | nil => exact absurd rfl h1 | cons p r => exact ⟨p, r, rfl⟩
    have h4 : cont ts w p.1 = p.2 := by
      unfold cont
      rw [hw]
      show (Al.look (p :: r) p.1).getD [] = _
      rw [Al.look_of_mem totI h2 (show (p.1, p.2) ∈ p :: r from List.mem_cons_self)]
      rfl
    have h5 := h3 p List.mem_cons_self
    rw [hc w p.1] at h4
    cases hw' : Al.look ts' w with
    | some ps' => exact ⟨ps', rfl⟩
    | none =>
      unfold cont at h4
      rw [hw'] at h4
      exact absurd h4.symm h5
  refine Al.ext tot_str h.srt h'.srt fun w => ?_
  cases hw : Al.look ts w with
  | none =>
    cases hw' : Al.look ts' w with
    | none => rfl
    | some ps' => obtain ⟨ps, h1⟩ := some_of h' h (fun w i => (hc w i).symm) w ps' hw'; rw [hw] at h1; cases h1
  | some ps =>
    obtain ⟨ps', hw'⟩ := some_of h h' hc w ps hw
    rw [hw']
    congr 1
    obtain ⟨_, h2, h3⟩ := h.post _ (Al.look_mem hw)
    obtain ⟨_, h2', h3'⟩ := h'.post _ (Al.look_mem hw')
    refine Al.ext totI h2 h2' fun i => ?_
    have h4 := hc w i
    unfold cont at h4
    rw [hw, hw'] at h4
    simp only [Option.bind_some] at h4
    cases e : Al.look ps i with
    | none =>
      cases e' : Al.look ps' i with
      | none => rfl
      | some q => rw [e, e'] at h4; exact absurd h4.symm (h3' _ (Al.look_mem e'))
    | some q =>
      cases e' : Al.look ps' i with
      | none => rw [e, e'] at h4; exact absurd h4 (h3 _ (Al.look_mem e))
      | some q' => rw [e, e'] at h4; exact congrArg some h4
/-- a place of a word of a text is added -/
def putP (id place : Int) (ps : List Post) : List Post := Al.upd ltI (fun q => q.getD [] ++ [place]) id ps
def putT (id place : Int) (w : Str) (ts : List Term) : List Term := Al.upd ltS (fun o => putP id place (o.getD [])) w ts
def putAll (id : Int) : List Str → Nat → List Term → List Term
  | [], _, ts => ts
  | w :: s, n, ts => putAll id s (n + 1) (putT id (n : Int) w ts)
theorem putP_ne (id place : Int) (ps : List Post) : putP id place ps ≠ [] := by
  cases ps with
  | nil => simp [putP, Al.upd]
  | cons p r =>
    unfold putP
    rw [Al.upd]
    split
    · simp
    · split <;> simp
theorem nil_sorted {K V : Type} {lt : K → K → Bool} : Al.Sorted lt ([] : List (K × V)) := List.Pairwise.nil
theorem Wf.get {ts : List Term} (h : Wf ts) (w : Str) : Al.Sorted ltI ((Al.look ts w).getD []) ∧ ∀ p ∈ (Al.look ts w).getD [], p.2 ≠ [] := by
  cases hw : Al.look ts w with
  | none => exact ⟨nil_sorted, by simp⟩
  | some ps => exact (h.post _ (Al.look_mem hw)).2
theorem putP_some {id place : Int} {ps : List Post} (hs : Al.Sorted ltI ps) (h : ∀ p ∈ ps, p.2 ≠ []) : ∀ p ∈ putP id place ps, p.2 ≠ [] := by
  intro p hp
  have h1 := Al.sorted_upd totI (f := fun q : Option (List Int) => q.getD [] ++ [place]) (k := id) hs
  have h2 := Al.look_of_mem totI h1 (show (p.1, p.2) ∈ _ from hp)
  rw [Al.look_upd totI hs] at h2
  split at h2
  · injection h2 with h2; rw [← h2]; simp
  · exact h _ (Al.look_mem h2)
theorem Wf.put {ts : List Term} (h : Wf ts) (id place : Int) (w : Str) : Wf (putT id place w ts) := by
  have h1 := Al.sorted_upd tot_str (f := fun o => putP id place (o.getD [])) (k := w) h.srt
  refine ⟨h1, fun t ht => ?_⟩
  have h2 := Al.look_of_mem tot_str h1 (show (t.1, t.2) ∈ _ from ht)
  rw [Al.look_upd tot_str h.srt] at h2
  split at h2
  · injection h2 with h2
    obtain ⟨h3, h4⟩ := h.get w
    rw [← h2]
    exact ⟨putP_ne _ _ _, Al.sorted_upd totI h3, putP_some h3 h4⟩
  · exact h.post _ (Al.look_mem h2)
theorem cont_put {ts : List Term} (h : Wf ts) (id place : Int) (w w' : Str) (i : Int) : cont (putT id place w ts) w' i = if w' = w ∧ i = id then cont ts w id ++ [place] else cont ts w' i := by
  unfold cont putT
  rw [Al.look_upd tot_str h.srt]
  by_cases hw : w' = w
  · subst hw
    simp only [if_true, true_and, Option.bind_some]
    unfold putP
    rw [Al.look_upd totI (h.get w').1]
    by_cases hi : i = id
    · subst hi
      simp only [if_true, Option.getD_some]
      cases Al.look ts w' <;> rfl
    · simp only [hi, if_false]
      cases Al.look ts w' <;> rfl
  · simp only [hw, if_false, false_and]
/-- where a word stands among others -/
def occ (w : Str) : List Str → Nat → List Int
  | [], _ => []
  | a :: s, n => if a = w then (n : Int) :: occ w s (n + 1) else occ w s (n + 1)
theorem Wf.putAll (id : Int) : ∀ (s : List Str) (n : Nat) {ts : List Term}, Wf ts → Wf (Ix.putAll id s n ts)
  | [], _, _, h => h
  | w :: s, n, _, h => Wf.putAll id s (n + 1) (h.put id n w)
theorem cont_putAll (id : Int) : ∀ (s : List Str) (n : Nat) {ts : List Term}, Wf ts → ∀ (w : Str) (i : Int), cont (putAll id s n ts) w i = if i = id then cont ts w id ++ occ w s n else cont ts w i
  | [], n, ts, h, w, i => by
    rw [putAll, occ, List.append_nil]
    split
    · rename_i e; rw [e]
    · rfl
  | a :: s, n, ts, h, w, i => by
    rw [putAll, cont_putAll id s (n + 1) (h.put id n a) w i, occ]
    by_cases hi : i = id
    · subst hi
      simp only [if_true]
      rw [cont_put h]
      by_cases hw : w = a
      · subst hw; simp
      · have : ¬ a = w := fun e => hw e.symm
        simp [hw, this]
    · simp only [hi, if_false]
      rw [cont_put h]
      simp [hi]
/-- a text is taken out -/
def removeT (id : Int) (ts : List Term) : List Term := (ts.map fun t => (t.1, t.2.filter fun p => !(p.1 == id))).filter fun t => !(t.2.length == 0)
theorem Wf.remove {ts : List Term} (h : Wf ts) (id : Int) : Wf (removeT id ts) := by
  unfold removeT
  refine ⟨Al.sorted_filter (Al.sorted_map _ h.srt) _, fun t ht => ?_⟩
  obtain ⟨h1, h2⟩ := List.mem_filter.1 ht
  obtain ⟨t', ht', rfl⟩ := List.mem_map.1 h1
  obtain ⟨h3, h4, h5⟩ := h.post _ ht'
  refine ⟨fun e => ?_, Al.sorted_filter h4 _, fun p hp => h5 p (List.mem_filter.1 hp).1⟩
  simp only at e
  rw [e] at h2
  simp at h2
theorem cont_remove {ts : List Term} (h : Wf ts) (id : Int) (w : Str) (i : Int) : cont (removeT id ts) w i = if i = id then [] else cont ts w i := by
  unfold cont removeT
  rw [Al.look_filter tot_str (Al.sorted_map _ h.srt), Al.look_map]
  cases hw : Al.look ts w with
  | none => simp
  | some ps =>
    have hs := (h.post _ (Al.look_mem hw)).2.1
    simp only [Option.map_some, Option.bind_some]
    have hl := Al.look_filter totI hs (fun p => !(p.1 == id)) i
    split
    · simp only [Option.bind_some]
      rw [hl]
      cases Al.look ps i with
      | none => simp
      | some q =>
        by_cases hi : i = id
        · subst hi; simp
        · simp [hi]
    · rename_i he
      have he' : ps.filter (fun p => !(p.1 == id)) = [] := List.eq_nil_of_length_eq_zero (by simpa using he)
      rw [he'] at hl
      by_cases hi : i = id
      · simp [hi]
      · simp only [hi, if_false, Option.bind_none]
        cases hq : Al.look ps i with
        | none => rfl
        | some q =>
          rw [hq] at hl
          simp [hi, Al.look] at hl
/-! ### the laws -/
theorem remove_put {ts : List Term} (h : Wf ts) (id : Int) (s : List Str) (hid : ∀ w, cont ts w id = []) : removeT id (putAll id s 0 ts) = ts := by
  have h1 := Wf.putAll id s 0 h
  refine Wf.ext (h1.remove id) h fun w i => ?_
  rw [cont_remove h1]
  split
  · rename_i e; rw [e, hid]
  · rename_i e; rw [cont_putAll id s 0 h, if_neg e]
theorem put_comm {ts : List Term} (h : Wf ts) (id id' : Int) (s s' : List Str) (hne : id ≠ id') : putAll id' s' 0 (putAll id s 0 ts) = putAll id s 0 (putAll id' s' 0 ts) := by
  have h1 := Wf.putAll id s 0 h
  have h2 := Wf.putAll id' s' 0 h
  refine Wf.ext (Wf.putAll id' s' 0 h1) (Wf.putAll id s 0 h2) fun w i => ?_
  rw [cont_putAll id' s' 0 h1, cont_putAll id s 0 h2, cont_putAll id s 0 h, cont_putAll id' s' 0 h, cont_putAll id s 0 h, cont_putAll id' s' 0 h]
  by_cases e1 : i = id
  · subst e1
    simp [hne]
  · by_cases e2 : i = id'
    · subst e2
      simp [e1]
    · simp [e1, e2]
end Ix
end Go.Proofs.YtngdfjlodblagaaGreatDoor
