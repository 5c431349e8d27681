/- slices.Sorted(maps.Keys(m)) at int keys: the kit's contracts, laid at this dump. -/
import Derived.Test.YtkmabheddbbndaaDoorChecked
import Derived.Test.YtkmabheddbbndaaDoorXr
import Derived.Shelf.SlIterI.Nil
import Derived.Shelf.SlIterI.Sorted
import Derived.Shelf.SortM.Plain
import Derived.Shelf.SortM.SortNone
import Derived.Ground.GgzProg
import Derived.Ground.SlgmProg
namespace Go.Proofs
open Go.RowKit Go.Maps Go.Sort Go.Shelf

shelf_lay_g SlLaysZI.n7 Ggz 7 at Tryd 37 as Tryd.keysA
shelf_lay_g SlLaysZI.n6 Ggz 6 at Tryd 36 as Tryd.sortedA
shelf_lay_g SlLaysM.n5 Slgm 5 at Tryd 48 as Tryd.sortA

theorem Tryd.sortsA (m : Nat) : AnyZI.SortsIn Tryd.prog Tryd.sortedA_ren Fence.wide m :=
  ⟨fun blk off cap ss W hH hblk hsz => callsIn_wide.2 (AnyM.slices_Sort_int Tryd.sortA blk off cap ss W hH hblk hsz),
   fun p cap W => callsIn_wide.2 (AnyM.slices_Sort_int_none Tryd.sortA p cap W)⟩
end Go.Proofs
