/- Lemmas and contracts, part 16. -/
import Derived.Test.YteaggenihhaajaaGreatZs15
import Derived.Lib.DecodeN
/- Names: the document's own decoding of runes counts what the language's counts: plain. No program here. -/
namespace Go.Proofs.YteaggenihhaajaaGreat
open Go.RowKit
set_option linter.unusedVariables false

end Go.Proofs.YteaggenihhaajaaGreat
