/- slices.SortFunc of reasm's pieces: what it leaves. No condition. -/
import Derived.Test.YtljleaomlooiaaaRows
import Derived.Test.YtljleaomlooiaaaMem
import Derived.Shelf.SlSortCmp.WholeK
import Derived.Shelf.SlicesG.Cmp
import Derived.Shelf.Lay
import Derived.Ground.SlsfProg
import Derived.Ground.SlgcProg
import Derived.Ground.NamesProg
namespace Go.Proofs.Ytljleaomlooiaaa.M
open Go.ChangeShapes Go.WideShapes Go.ChangeAt Go.RowKit
open Go.Shelf Go.Lib Go.Sort
shelf_lay_g SlLaysF0.n6 Slsf 6 at Try 30 as sortPc
#print axioms sortPc
end Go.Proofs.Ytljleaomlooiaaa.M
