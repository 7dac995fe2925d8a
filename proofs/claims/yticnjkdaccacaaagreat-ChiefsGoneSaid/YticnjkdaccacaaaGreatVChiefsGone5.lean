/- Texts of this work, one behind the other. -/
import Derived.Test.YticnjkdaccacaaaGreatVChiefsGone4
import Derived.Test.YticnjkdaccacaaaGreatProg
section
namespace Go.Proofs.YticnjkdaccacaaaGreat.QSortuint32uint32
open Go Go.RowKit Sx Base _root_.Go.Proofs.YticnjkdaccacaaaGreat.Own
end Go.Proofs.YticnjkdaccacaaaGreat.QSortuint32uint32
end
