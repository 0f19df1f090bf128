/- The numbers of package api are those of the document: a closed statement. No condition. -/
import Derived.Test.YtkjocdhpccfiiaaPNamesx1
namespace Go.Proofs.Ytkjocdhpccfiiaa.Pure
open Go.RowKit Go.Proofs.Ytkjocdhpccfiiaa.PNames Go.Proofs.YtkjocdhpccfiiaaW.PrintWords Go.Proofs.YtkjocdhpccfiiaaW.PrintLast Go.Proofs.YtkjocdhpccfiiaaW.PrintMore

theorem Names : palatinetop_Names.Pure := rfl

end Go.Proofs.Ytkjocdhpccfiiaa.Pure
