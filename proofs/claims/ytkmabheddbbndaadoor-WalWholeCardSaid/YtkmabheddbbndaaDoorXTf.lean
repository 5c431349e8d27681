/- Facts on the tables of the types. -/
import Derived.Test.YtkmabheddbbndaaDoorXWal7
import Derived.Test.YtkmabheddbbndaaDoorXu
namespace Go.Xec
open Go.Proofs
theorem tF52_0 : fieldT Tryd.prog 52 0 = some (0, 22, 1) := by kernel_rfl
theorem tF52_1 : fieldT Tryd.prog 52 1 = some (1, 50, 1) := by kernel_rfl
theorem tF52_2 : fieldT Tryd.prog 52 2 = some (2, 50, 1) := by kernel_rfl
theorem tF55_0 : fieldT Tryd.prog 55 0 = some (0, 3, 1) := by kernel_rfl
theorem tF55_1 : fieldT Tryd.prog 55 1 = some (1, 3, 1) := by kernel_rfl
theorem tF55_2 : fieldT Tryd.prog 55 2 = some (2, 33, 1) := by kernel_rfl
theorem tF61_0 : fieldT Tryd.prog 61 0 = some (0, 22, 1) := by kernel_rfl
theorem tF61_1 : fieldT Tryd.prog 61 1 = some (1, 22, 1) := by kernel_rfl
theorem tF61_2 : fieldT Tryd.prog 61 2 = some (2, 59, 1) := by kernel_rfl
theorem tF61_3 : fieldT Tryd.prog 61 3 = some (3, 3, 1) := by kernel_rfl
theorem tF61_4 : fieldT Tryd.prog 61 4 = some (4, 3, 1) := by kernel_rfl
theorem tF61_5 : fieldT Tryd.prog 61 5 = some (5, 4, 1) := by kernel_rfl
theorem tF67_0 : fieldT Tryd.prog 67 0 = some (0, 25, 1) := by kernel_rfl
theorem tF67_1 : fieldT Tryd.prog 67 1 = some (1, 65, 1) := by kernel_rfl
theorem tF67_2 : fieldT Tryd.prog 67 2 = some (2, 65, 1) := by kernel_rfl
theorem tF81_0 : fieldT Tryd.prog 81 0 = some (0, 3, 1) := by kernel_rfl
theorem tF81_1 : fieldT Tryd.prog 81 1 = some (1, 33, 1) := by kernel_rfl
theorem tF84_0 : fieldT Tryd.prog 84 0 = some (0, 3, 1) := by kernel_rfl
theorem tF84_1 : fieldT Tryd.prog 84 1 = some (1, 33, 1) := by kernel_rfl
theorem tF98_0 : fieldT Tryd.prog 98 0 = some (0, 77, 1) := by kernel_rfl
theorem ta22 : aggT Tryd.prog 22 = some false := by kernel_rfl
theorem ta23 : aggT Tryd.prog 23 = some false := by kernel_rfl
theorem ta25 : aggT Tryd.prog 25 = some false := by kernel_rfl
theorem ta29 : aggT Tryd.prog 29 = some false := by kernel_rfl
theorem ta3 : aggT Tryd.prog 3 = some false := by kernel_rfl
theorem ta33 : aggT Tryd.prog 33 = some false := by kernel_rfl
theorem ta4 : aggT Tryd.prog 4 = some false := by kernel_rfl
theorem ta5 : aggT Tryd.prog 5 = some false := by kernel_rfl
theorem ta50 : aggT Tryd.prog 50 = some false := by kernel_rfl
theorem ta55 : aggT Tryd.prog 55 = some true := by kernel_rfl
theorem ta59 : aggT Tryd.prog 59 = some false := by kernel_rfl
theorem ta65 : aggT Tryd.prog 65 = some false := by kernel_rfl
theorem ta77 : aggT Tryd.prog 77 = some false := by kernel_rfl
theorem ta81 : aggT Tryd.prog 81 = some true := by kernel_rfl
theorem tb29 : bytesOfT Tryd.prog 29 = some 16 := by kernel_rfl
theorem tb3 : bytesOfT Tryd.prog 3 = some 8 := by kernel_rfl
theorem tb33 : bytesOfT Tryd.prog 33 = some 24 := by kernel_rfl
theorem tb5 : bytesOfT Tryd.prog 5 = some 1 := by kernel_rfl
theorem tb81 : bytesOfT Tryd.prog 81 = some 32 := by kernel_rfl
theorem tb84 : bytesOfT Tryd.prog 84 = some 32 := by kernel_rfl
theorem te22 : sliceElem Tryd.prog 22 = some 33 := by kernel_rfl
theorem te23 : sliceElem Tryd.prog 23 = some 3 := by kernel_rfl
theorem te33 : sliceElem Tryd.prog 33 = some 5 := by kernel_rfl
theorem te44 : sliceElem Tryd.prog 44 = some 4 := by kernel_rfl
theorem te47 : sliceElem Tryd.prog 47 = some 55 := by kernel_rfl
theorem te50 : sliceElem Tryd.prog 50 = some 84 := by kernel_rfl
theorem te53 : sliceElem Tryd.prog 53 = some 22 := by kernel_rfl
theorem te59 : sliceElem Tryd.prog 59 = some 81 := by kernel_rfl
theorem te77 : sliceElem Tryd.prog 77 = some 29 := by kernel_rfl
theorem tk3 (k : Int) : keyOk Tryd.prog 3 (.int .i64 k) = true := by kernel_rfl
theorem tm65 : mapT Tryd.prog 65 = some (3, 33) := by kernel_rfl
theorem tu25 : Tryd.prog.underlying 25 = some (.pointer 61) := by kernel_rfl
theorem tu27 : Tryd.prog.underlying 27 = some (.pointer 67) := by kernel_rfl
noncomputable def ti29 := match Tryd.prog.underlying 29 with
  | some (.interface e) => e
  | _ => #[]
theorem tu29 : Tryd.prog.underlying 29 = some (.interface ti29) := by kernel_rfl
theorem tu3 : Tryd.prog.underlying 3 = some (.int .i64) := by kernel_rfl
theorem tu33 : Tryd.prog.underlying 33 = some (.slice 5) := by kernel_rfl
theorem tu4 : Tryd.prog.underlying 4 = some (.bool) := by kernel_rfl
theorem tu41 : Tryd.prog.underlying 41 = some (.int .i64) := by kernel_rfl
theorem tu5 : Tryd.prog.underlying 5 = some (.int .u8) := by kernel_rfl
theorem tu65 : Tryd.prog.underlying 65 = some (.map 3 33) := by kernel_rfl
theorem tu70 : Tryd.prog.underlying 70 = some (.pointer 72) := by kernel_rfl
theorem tu86 : Tryd.prog.underlying 86 = some (.pointer 88) := by kernel_rfl
theorem tu89 : Tryd.prog.underlying 89 = some (.int .u64) := by kernel_rfl
theorem tu91 : Tryd.prog.underlying 91 = some (.int .u32) := by kernel_rfl
theorem tu96 : Tryd.prog.underlying 96 = some (.pointer 98) := by kernel_rfl
theorem tz22 : sizeOfT Tryd.prog 22 = some 1 := by kernel_rfl
theorem tz23 : sizeOfT Tryd.prog 23 = some 1 := by kernel_rfl
theorem tz25 : sizeOfT Tryd.prog 25 = some 1 := by kernel_rfl
theorem tz29 : sizeOfT Tryd.prog 29 = some 1 := by kernel_rfl
theorem tz3 : sizeOfT Tryd.prog 3 = some 1 := by kernel_rfl
theorem tz33 : sizeOfT Tryd.prog 33 = some 1 := by kernel_rfl
theorem tz4 : sizeOfT Tryd.prog 4 = some 1 := by kernel_rfl
theorem tz5 : sizeOfT Tryd.prog 5 = some 1 := by kernel_rfl
theorem tz50 : sizeOfT Tryd.prog 50 = some 1 := by kernel_rfl
theorem tz55 : sizeOfT Tryd.prog 55 = some 3 := by kernel_rfl
theorem tz59 : sizeOfT Tryd.prog 59 = some 1 := by kernel_rfl
theorem tz65 : sizeOfT Tryd.prog 65 = some 1 := by kernel_rfl
theorem tz77 : sizeOfT Tryd.prog 77 = some 1 := by kernel_rfl
theorem tz81 : sizeOfT Tryd.prog 81 = some 2 := by kernel_rfl
theorem tz84 : sizeOfT Tryd.prog 84 = some 2 := by kernel_rfl
theorem tzo22 : zeroOk Tryd.prog 22 1 = true := by kernel_rfl
theorem tzo29 : zeroOk Tryd.prog 29 1 = true := by kernel_rfl
theorem tzo3 : zeroOk Tryd.prog 3 1 = true := by kernel_rfl
theorem tzo33 : zeroOk Tryd.prog 33 1 = true := by kernel_rfl
theorem tzo5 : zeroOk Tryd.prog 5 1 = true := by kernel_rfl
theorem tzo81 : zeroOk Tryd.prog 81 2 = true := by kernel_rfl
theorem tzo84 : zeroOk Tryd.prog 84 2 = true := by kernel_rfl
end Go.Xec
