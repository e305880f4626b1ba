/-
  A contract of the kit's shelf, laid at this program: internal/strconv.ParseUint.
-/
import Derived.Test.YtkmocipdekogkaaGreatDoorProg
import Derived.Ground.NamesProg
import Derived.Shelf.Strconv.ParseUint10At
set_option linter.all false
namespace Go.Proofs
open Go.Shelf
def Tryz.lays287_ren : Go.Shelf.Ren := ⟨fun | 287 => 202 | 321 => 279 | 322 => 280 | n => n, fun | 9 => 9 | 3 => 3 | 53 => 24 | 75 => 260 | 4 => 4 | 167 => 429 | 5 => 5 | 46 => 170 | 37 => 38 | 0 => 0 | 21 => 21 | 80 => 306 | n => n, fun | n => n⟩
theorem Tryz.lays287 : Go.Proofs.Lays.n287 Tryz.prog Tryz.lays287_ren := {
  mixed := by kernel_rfl
  f287 := Tryz.func202.trans (congrArg some (by kernel_rfl))
  f321 := Tryz.func279.trans (congrArg some (by kernel_rfl))
  f322 := Tryz.func280.trans (congrArg some (by kernel_rfl))
  t0 := Tryz.underlying0
  a0 := Tryz.isAgg0
  z0 := Tryz.sizeOf0
  v0 := Tryz.zeroValue0
  t3 := Tryz.underlying3
  a3 := Tryz.isAgg3
  z3 := Tryz.sizeOf3
  v3 := Tryz.zeroValue3
  t4 := Tryz.underlying4
  a4 := Tryz.isAgg4
  z4 := Tryz.sizeOf4
  v4 := Tryz.zeroValue4
  t5 := Tryz.underlying5
  a5 := Tryz.isAgg5
  z5 := Tryz.sizeOf5
  v5 := Tryz.zeroValue5
  t9 := Tryz.underlying9
  a9 := Tryz.isAgg9
  z9 := Tryz.sizeOf9
  v9 := Tryz.zeroValue9
  t21 := Tryz.underlying21
  a21 := Tryz.isAgg21
  z21 := Tryz.sizeOf21
  v21 := Tryz.zeroValue21
  t37 := Tryz.underlying38
  a37 := Tryz.isAgg38
  z37 := Tryz.sizeOf38
  v37 := Tryz.zeroValue38
  t46 := Tryz.underlying170
  a46 := Tryz.isAgg170
  z46 := Tryz.sizeOf170
  v46 := Tryz.zeroValue170
  t53 := Tryz.underlying24
  a53 := Tryz.isAgg24
  z53 := Tryz.sizeOf24
  v53 := Tryz.zeroValue24
  t75 := Tryz.underlying260
  a75 := Tryz.isAgg260
  z75 := Tryz.sizeOf260
  v75 := Tryz.zeroValue260
  t167 := Tryz.underlying429
  a167 := Tryz.isAgg429
  z167 := Tryz.sizeOf429
  v167 := Tryz.zeroValue429 }
namespace YtkmocipdekogkaaGreatDoor
theorem parse_uint (t : ByteArray) (hmax : t.size ≤ 9223372036854775806) (w : World) :
    Calls Tryz.prog 202 #[.string t, .int .i64 10, .int .i64 64] w fun e w' => e = .returned (Lib.uintTupleM 429 18446744073709551615 (Lib.parseUintB 64 t.data.toList)) ∧ (w' = w ∨ w' = Lib.bytesWorld w 5 t) :=
  Any.internal_strconv_ParseUint_10_at64 Tryz.lays287 t hmax w
end YtkmocipdekogkaaGreatDoor
end Go.Proofs
