/- math/bits.Len up to a thousand, by the kernel. -/
import Derived.Test.YtjdholnlbhkmeaaPpiv
namespace Go.Proofs.Ytjdholnlbhkmeaa.Pl
open Go Go.RowKit Sx Base Own QSortuint32uint32
set_option maxRecDepth 100000 in
theorem len_ok : (List.range 1001).all (fun n => Len.f (n : Int) == some ((if n = 0 then 0 else Nat.log2 n + 1 : Nat) : Int)) = true := by kernel_rfl
end Go.Proofs.Ytjdholnlbhkmeaa.Pl
