import Derived.Test.YtmljohmhjajniaaQ3
set_option linter.unusedVariables false
set_option linter.unusedSimpArgs false
namespace Go.Proofs.Ytmljohmhjajniaa.Si
open Go.RowKit Go.Lg Go.Proofs.Ytmljohmhjajniaa
attribute [local irreducible] JC JL JD RN RT Eff Yld YldIf Tr
end Go.Proofs.Ytmljohmhjajniaa.Si
