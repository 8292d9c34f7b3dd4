/- The library's contract of slices.Sort at strings, laid at this dump in plain words by the shelf's program. Conditions: none. -/
import Derived.Shelf.Sort.Plain
import Derived.Shelf.Slices.In.SortNone
import Derived.Test.YtfdfeblcchbcnaaDoorProg
namespace Go.Proofs
open Go.Shelf
def Tryd.lays190_ren : Go.Shelf.Ren := ⟨fun | 190 => 28 | 125 => 33 | 258 => 32 | 128 => 46 | 129 => 47 | 302 => 37 | 303 => 38 | 304 => 39 | 305 => 40 | 306 => 41 | 307 => 42 | 308 => 43 | 309 => 44 | 310 => 45 | 333 => 49 | 329 => 50 | 330 => 51 | 334 => 52 | 335 => 53 | 336 => 54 | 344 => 57 | n => n, fun | 31 => 42 | 9 => 9 | 3 => 3 | 46 => 68 | 0 => 0 | 51 => 84 | 53 => 86 | 4 => 4 | 183 => 76 | 182 => 75 | 131 => 81 | 5 => 5 | 218 => 92 | 222 => 96 | 228 => 108 | 229 => 109 | n => n, fun | n => n⟩
theorem Tryd.lays190 : Go.Proofs.Lays.n190 Tryd.prog Tryd.lays190_ren := {
  mixed := by kernel_rfl
  f125 := Tryd.func33.trans (congrArg some (by kernel_rfl))
  f128 := Tryd.func46.trans (congrArg some (by kernel_rfl))
  f129 := Tryd.func47.trans (congrArg some (by kernel_rfl))
  f190 := Tryd.func28.trans (congrArg some (by kernel_rfl))
  f258 := Tryd.func32.trans (congrArg some (by kernel_rfl))
  f302 := Tryd.func37.trans (congrArg some (by kernel_rfl))
  f303 := Tryd.func38.trans (congrArg some (by kernel_rfl))
  f304 := Tryd.func39.trans (congrArg some (by kernel_rfl))
  f305 := Tryd.func40.trans (congrArg some (by kernel_rfl))
  f306 := Tryd.func41.trans (congrArg some (by kernel_rfl))
  f307 := Tryd.func42.trans (congrArg some (by kernel_rfl))
  f308 := Tryd.func43.trans (congrArg some (by kernel_rfl))
  f309 := Tryd.func44.trans (congrArg some (by kernel_rfl))
  f310 := Tryd.func45.trans (congrArg some (by kernel_rfl))
  f329 := Tryd.func50.trans (congrArg some (by kernel_rfl))
  f330 := Tryd.func51.trans (congrArg some (by kernel_rfl))
  f333 := Tryd.func49.trans (congrArg some (by kernel_rfl))
  f334 := Tryd.func52.trans (congrArg some (by kernel_rfl))
  f335 := Tryd.func53.trans (congrArg some (by kernel_rfl))
  f336 := Tryd.func54.trans (congrArg some (by kernel_rfl))
  f344 := Tryd.func57.trans (congrArg some (by kernel_rfl))
  t0 := Tryd.underlying0
  a0 := Tryd.isAgg0
  z0 := Tryd.sizeOf0
  v0 := Tryd.zeroValue0
  t3 := Tryd.underlying3
  a3 := Tryd.isAgg3
  z3 := Tryd.sizeOf3
  v3 := Tryd.zeroValue3
  t4 := Tryd.underlying4
  a4 := Tryd.isAgg4
  z4 := Tryd.sizeOf4
  v4 := Tryd.zeroValue4
  t5 := Tryd.underlying5
  a5 := Tryd.isAgg5
  z5 := Tryd.sizeOf5
  v5 := Tryd.zeroValue5
  t9 := Tryd.underlying9
  a9 := Tryd.isAgg9
  z9 := Tryd.sizeOf9
  v9 := Tryd.zeroValue9
  t31 := Tryd.underlying42
  a31 := Tryd.isAgg42
  z31 := Tryd.sizeOf42
  v31 := Tryd.zeroValue42
  t46 := Tryd.underlying68
  a46 := Tryd.isAgg68
  z46 := Tryd.sizeOf68
  v46 := Tryd.zeroValue68
  t51 := Tryd.underlying84
  a51 := Tryd.isAgg84
  z51 := Tryd.sizeOf84
  v51 := Tryd.zeroValue84
  t53 := Tryd.underlying86
  a53 := Tryd.isAgg86
  z53 := Tryd.sizeOf86
  v53 := Tryd.zeroValue86
  t131 := Tryd.underlying81
  a131 := Tryd.isAgg81
  z131 := Tryd.sizeOf81
  v131 := Tryd.zeroValue81
  t182 := Tryd.underlying75
  a182 := Tryd.isAgg75
  z182 := Tryd.sizeOf75
  v182 := Tryd.zeroValue75
  t183 := Tryd.underlying76
  a183 := Tryd.isAgg76
  z183 := Tryd.sizeOf76
  v183 := Tryd.zeroValue76
  t218 := Tryd.underlying92
  a218 := Tryd.isAgg92
  z218 := Tryd.sizeOf92
  v218 := Tryd.zeroValue92
  t222 := Tryd.underlying96
  a222 := Tryd.isAgg96
  z222 := Tryd.sizeOf96
  v222 := Tryd.zeroValue96
  t228 := Tryd.underlying108
  a228 := Tryd.isAgg108
  z228 := Tryd.sizeOf108
  v228 := Tryd.zeroValue108
  t229 := Tryd.underlying109
  a229 := Tryd.isAgg109
  z229 := Tryd.sizeOf109
  v229 := Tryd.zeroValue109 }
open Go.Sort Go.RowKit in
theorem Tryd.slices_Sort_string (blk off cap : Nat) (ss : List (List UInt8)) (w : World) (hH : Holds encStr w blk off ss.toArray) (hblk : blk < w.heap.size) (hsz : ss.length < 4611686018427387904) :
    Calls Tryd.prog 28 #[.slice (some ⟨blk, off, none⟩) ss.length cap] w fun e w' =>
      e = .returned (.tuple #[]) ∧ ∃ n os, w' = grow (putRow encStr (Sort.ahead w n) blk off (ss.mergeSort fun x y => decide (x ≤ y)).toArray) os := Any.slices_Sort_string Tryd.lays190 blk off cap ss w hH hblk hsz
open Go.RowKit Go.Sort in
/-- .. and plain. (LAID: no walk: one application.) -/
theorem Tryd.slices_Sort_string_none (p : Option Addr) (cap : Nat) (w : World) :
    Calls Tryd.prog 28 #[.slice p 0 cap] w fun e w' => e = .returned (.tuple #[]) ∧ w' = w := Any.slices_Sort_string_none Tryd.lays190 p cap w
end Go.Proofs
