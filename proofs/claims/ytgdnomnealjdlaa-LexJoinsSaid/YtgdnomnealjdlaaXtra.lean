/- Small laws that the walks of this seat's texts use. -/
import Derived.Test.YtgdnomnealjdlaaWMore
namespace Go.Proofs.Ytgdnomnealjdlaa.Xtra
open Go.RowKit

theorem setCell_drewN_ (w : World) (n : Nat) (a : Addr) (v : Value) : (w.drewN n).setCell a v = (w.setCell a v).drewN n := rfl
theorem w64_mod256_ (x : Int) : wrap64 (x % 256) = x % 256 := by unfold wrap64; omega
end Go.Proofs.Ytgdnomnealjdlaa.Xtra
