/- The Pure of ShelfLong, for its row. -/
import Derived.Test.YtjnhbalclimmnaaN3
namespace Go.Proofs.Ytjnhbalclimmnaa.Pure
open Go.RowKit Go.Proofs.Ytjnhbalclimmnaa.PA
theorem ShelfLong : maquettelaw16_ShelfLong.Pure := shelfLong
end Go.Proofs.Ytjnhbalclimmnaa.Pure
