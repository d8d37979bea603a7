/-
 The contracts of the library functions at this program, as the kit's tool lays them.
-/
import Derived.Shelf.Small.Bits
import Derived.Shelf.Sort.Plain
import Derived.Shelf.Slices.In.SortNone
import Derived.Shelf.Slices.In.SortNone2
import Derived.Test.YtagghghoimpofaaGreatDoorProg
namespace Go.Proofs
open Go.Shelf
def Tryz.lays192_ren : Go.Shelf.Ren := ⟨fun | 192 => 48 | 190 => 83 | 125 => 100 | 258 => 99 | 128 => 119 | 129 => 120 | 302 => 110 | 303 => 111 | 304 => 112 | 305 => 113 | 306 => 114 | 307 => 115 | 308 => 116 | 309 => 117 | 310 => 118 | 333 => 129 | 329 => 130 | 330 => 131 | 334 => 132 | 335 => 133 | 336 => 134 | 344 => 140 | n => n, fun | 31 => 53 | 0 => 0 | 9 => 9 | 3 => 3 | 46 => 128 | 51 => 126 | 53 => 151 | 4 => 4 | 183 => 142 | 182 => 141 | 131 => 147 | 5 => 5 | 218 => 158 | 222 => 162 | 228 => 169 | 229 => 65 | n => n, fun | n => n⟩
theorem Tryz.lays192 : Go.Proofs.Lays.n192 Tryz.prog Tryz.lays192_ren := {
 mixed := by kernel_rfl
 f125 := Tryz.func100.trans (congrArg some (by kernel_rfl))
 f128 := Tryz.func119.trans (congrArg some (by kernel_rfl))
 f129 := Tryz.func120.trans (congrArg some (by kernel_rfl))
 f190 := Tryz.func83.trans (congrArg some (by kernel_rfl))
 f192 := Tryz.func48.trans (congrArg some (by kernel_rfl))
 f258 := Tryz.func99.trans (congrArg some (by kernel_rfl))
 f302 := Tryz.func110.trans (congrArg some (by kernel_rfl))
 f303 := Tryz.func111.trans (congrArg some (by kernel_rfl))
 f304 := Tryz.func112.trans (congrArg some (by kernel_rfl))
 f305 := Tryz.func113.trans (congrArg some (by kernel_rfl))
 f306 := Tryz.func114.trans (congrArg some (by kernel_rfl))
 f307 := Tryz.func115.trans (congrArg some (by kernel_rfl))
 f308 := Tryz.func116.trans (congrArg some (by kernel_rfl))
 f309 := Tryz.func117.trans (congrArg some (by kernel_rfl))
 f310 := Tryz.func118.trans (congrArg some (by kernel_rfl))
 f329 := Tryz.func130.trans (congrArg some (by kernel_rfl))
 f330 := Tryz.func131.trans (congrArg some (by kernel_rfl))
 f333 := Tryz.func129.trans (congrArg some (by kernel_rfl))
 f334 := Tryz.func132.trans (congrArg some (by kernel_rfl))
 f335 := Tryz.func133.trans (congrArg some (by kernel_rfl))
 f336 := Tryz.func134.trans (congrArg some (by kernel_rfl))
 f344 := Tryz.func140.trans (congrArg some (by kernel_rfl))
 t0 := Tryz.underlying0
 a0 := Tryz.isAgg0
 z0 := Tryz.sizeOf0
 v0 := Tryz.zeroValue0
 t3 := Tryz.underlying3
 a3 := Tryz.isAgg3
 z3 := Tryz.sizeOf3
 v3 := Tryz.zeroValue3
 t4 := Tryz.underlying4
 a4 := Tryz.isAgg4
 z4 := Tryz.sizeOf4
 v4 := Tryz.zeroValue4
 t5 := Tryz.underlying5
 a5 := Tryz.isAgg5
 z5 := Tryz.sizeOf5
 v5 := Tryz.zeroValue5
 t9 := Tryz.underlying9
 a9 := Tryz.isAgg9
 z9 := Tryz.sizeOf9
 v9 := Tryz.zeroValue9
 t31 := Tryz.underlying53
 a31 := Tryz.isAgg53
 z31 := Tryz.sizeOf53
 v31 := Tryz.zeroValue53
 t46 := Tryz.underlying128
 a46 := Tryz.isAgg128
 z46 := Tryz.sizeOf128
 v46 := Tryz.zeroValue128
 t51 := Tryz.underlying126
 a51 := Tryz.isAgg126
 z51 := Tryz.sizeOf126
 v51 := Tryz.zeroValue126
 t53 := Tryz.underlying151
 a53 := Tryz.isAgg151
 z53 := Tryz.sizeOf151
 v53 := Tryz.zeroValue151
 t131 := Tryz.underlying147
 a131 := Tryz.isAgg147
 z131 := Tryz.sizeOf147
 v131 := Tryz.zeroValue147
 t182 := Tryz.underlying141
 a182 := Tryz.isAgg141
 z182 := Tryz.sizeOf141
 v182 := Tryz.zeroValue141
 t183 := Tryz.underlying142
 a183 := Tryz.isAgg142
 z183 := Tryz.sizeOf142
 v183 := Tryz.zeroValue142
 t218 := Tryz.underlying158
 a218 := Tryz.isAgg158
 z218 := Tryz.sizeOf158
 v218 := Tryz.zeroValue158
 t222 := Tryz.underlying162
 a222 := Tryz.isAgg162
 z222 := Tryz.sizeOf162
 v222 := Tryz.zeroValue162
 t228 := Tryz.underlying169
 a228 := Tryz.isAgg169
 z228 := Tryz.sizeOf169
 v228 := Tryz.zeroValue169
 t229 := Tryz.underlying65
 a229 := Tryz.isAgg65
 z229 := Tryz.sizeOf65
 v229 := Tryz.zeroValue65 }
open Go.Sort Go.RowKit in
theorem Tryz.sort_Strings (blk off cap : Nat) (ss : List (List UInt8)) (w : World) (hH : Holds encStr w blk off ss.toArray) (hblk : blk < w.heap.size) (hsz : ss.length < 4611686018427387904) :
  Calls Tryz.prog 48 #[.slice (some ⟨blk, off, none⟩) ss.length cap] w fun e w' =>
   e = .returned (.tuple #[]) ∧ ∃ n os, w' = grow (putRow encStr (Sort.ahead w n) blk off (ss.mergeSort fun x y => decide (x ≤ y)).toArray) os := Any.sort_Strings Tryz.lays192 blk off cap ss w hH hblk hsz
open Go.RowKit Go.Sort in
theorem Tryz.sort_Strings_none (p : Option Addr) (cap : Nat) (w : World) :
  Calls Tryz.prog 48 #[.slice p 0 cap] w fun e w' => e = .returned (.tuple #[]) ∧ w' = w := Any.sort_Strings_none Tryz.lays192 p cap w

end Go.Proofs
