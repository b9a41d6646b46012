/- Texts of this claim, one behind the other. -/
import Derived.Test.YtdamibblnjeooaaMProofLowerd
import Derived.Test.YtdamibblnjeooaaMProofLowerb

/- Chapter 29: the reference's Feasible stands in ARF7. -/

/- Written by a program of this session over the kit's printer: what the functions named below compute, and that the machine's calls compute it. Not trusted: Lean checks it. -/
namespace Go.Proofs.Ytdamibblnjeooaa.H
open Go.RowKit Go.Proofs.YtdamibblnjeooaaW.PrintWords Go.Proofs.YtdamibblnjeooaaW.PrintLast Go.Proofs.YtdamibblnjeooaaW.PrintMore
attribute [local go_sem] max2_int min2_int max_two min_two max_three min_three max_four min_four   -- for this text's walks alone
set_option linter.unusedVariables false
set_option linter.unusedSimpArgs false


end Go.Proofs.Ytdamibblnjeooaa.H
