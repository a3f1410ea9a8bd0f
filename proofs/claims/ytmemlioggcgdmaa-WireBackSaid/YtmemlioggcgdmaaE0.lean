/- What the functions of the program compute, each with the proof that its code computes it. Written by a program (rvp2.py). -/
import Derived.Test.YtmemlioggcgdmaaProg
import Derived.Test.YtmemlioggcgdmaaRvP
import Derived.Test.YtmemlioggcgdmaaHooks

set_option linter.unusedVariables false
set_option maxRecDepth 100000
set_option maxHeartbeats 4000000
namespace Go.Rv.Try
open Go Go.Rv Go.RowKit
noncomputable section

-- drayman/wire.Int

abbrev wire_Int_T (α : Type) : Type := Int → (ByteArray → Option α) → Option α

noncomputable def wire_Int {α : Type} (n1 : Int) (k : ByteArray → Option α) : Option α :=
  (cond (decide (n1 < 0))
    (cond (decide ((iNot .u64 (IntKind.u64.wrap ((IntKind.u64.wrap n1) * 2 ^ (min 1 IntKind.u64.bits)))) > 0))
      (cond (decide ((Int.fdiv (iNot .u64 (IntKind.u64.wrap ((IntKind.u64.wrap n1) * 2 ^ (min 1 IntKind.u64.bits)))) (2 ^ (min 8 IntKind.u64.bits))) > 0))
        (cond (decide ((Int.fdiv (Int.fdiv (iNot .u64 (IntKind.u64.wrap ((IntKind.u64.wrap n1) * 2 ^ (min 1 IntKind.u64.bits)))) (2 ^ (min 8 IntKind.u64.bits))) (2 ^ (min 8 IntKind.u64.bits))) > 0))
          (cond (decide ((Int.fdiv (Int.fdiv (Int.fdiv (iNot .u64 (IntKind.u64.wrap ((IntKind.u64.wrap n1) * 2 ^ (min 1 IntKind.u64.bits)))) (2 ^ (min 8 IntKind.u64.bits))) (2 ^ (min 8 IntKind.u64.bits))) (2 ^ (min 8 IntKind.u64.bits))) > 0))
            (cond (decide ((Int.fdiv (Int.fdiv (Int.fdiv (Int.fdiv (iNot .u64 (IntKind.u64.wrap ((IntKind.u64.wrap n1) * 2 ^ (min 1 IntKind.u64.bits)))) (2 ^ (min 8 IntKind.u64.bits))) (2 ^ (min 8 IntKind.u64.bits))) (2 ^ (min 8 IntKind.u64.bits))) (2 ^ (min 8 IntKind.u64.bits))) > 0))
              (cond (decide ((Int.fdiv (Int.fdiv (Int.fdiv (Int.fdiv (Int.fdiv (iNot .u64 (IntKind.u64.wrap ((IntKind.u64.wrap n1) * 2 ^ (min 1 IntKind.u64.bits)))) (2 ^ (min 8 IntKind.u64.bits))) (2 ^ (min 8 IntKind.u64.bits))) (2 ^ (min 8 IntKind.u64.bits))) (2 ^ (min 8 IntKind.u64.bits))) (2 ^ (min 8 IntKind.u64.bits))) > 0))
                (cond (decide ((Int.fdiv (Int.fdiv (Int.fdiv (Int.fdiv (Int.fdiv (Int.fdiv (iNot .u64 (IntKind.u64.wrap ((IntKind.u64.wrap n1) * 2 ^ (min 1 IntKind.u64.bits)))) (2 ^ (min 8 IntKind.u64.bits))) (2 ^ (min 8 IntKind.u64.bits))) (2 ^ (min 8 IntKind.u64.bits))) (2 ^ (min 8 IntKind.u64.bits))) (2 ^ (min 8 IntKind.u64.bits))) (2 ^ (min 8 IntKind.u64.bits))) > 0))
                  (cond (decide ((Int.fdiv (Int.fdiv (Int.fdiv (Int.fdiv (Int.fdiv (Int.fdiv (Int.fdiv (iNot .u64 (IntKind.u64.wrap ((IntKind.u64.wrap n1) * 2 ^ (min 1 IntKind.u64.bits)))) (2 ^ (min 8 IntKind.u64.bits))) (2 ^ (min 8 IntKind.u64.bits))) (2 ^ (min 8 IntKind.u64.bits))) (2 ^ (min 8 IntKind.u64.bits))) (2 ^ (min 8 IntKind.u64.bits))) (2 ^ (min 8 IntKind.u64.bits))) (2 ^ (min 8 IntKind.u64.bits))) > 0))
                    (cond (decide ((Int.fdiv (Int.fdiv (Int.fdiv (Int.fdiv (Int.fdiv (Int.fdiv (Int.fdiv (Int.fdiv (iNot .u64 (IntKind.u64.wrap ((IntKind.u64.wrap n1) * 2 ^ (min 1 IntKind.u64.bits)))) (2 ^ (min 8 IntKind.u64.bits))) (2 ^ (min 8 IntKind.u64.bits))) (2 ^ (min 8 IntKind.u64.bits))) (2 ^ (min 8 IntKind.u64.bits))) (2 ^ (min 8 IntKind.u64.bits))) (2 ^ (min 8 IntKind.u64.bits))) (2 ^ (min 8 IntKind.u64.bits))) (2 ^ (min 8 IntKind.u64.bits))) > 0))
                      (cond (decide ((Int.fdiv (Int.fdiv (Int.fdiv (Int.fdiv (Int.fdiv (Int.fdiv (Int.fdiv (Int.fdiv (Int.fdiv (iNot .u64 (IntKind.u64.wrap ((IntKind.u64.wrap n1) * 2 ^ (min 1 IntKind.u64.bits)))) (2 ^ (min 8 IntKind.u64.bits))) (2 ^ (min 8 IntKind.u64.bits))) (2 ^ (min 8 IntKind.u64.bits))) (2 ^ (min 8 IntKind.u64.bits))) (2 ^ (min 8 IntKind.u64.bits))) (2 ^ (min 8 IntKind.u64.bits))) (2 ^ (min 8 IntKind.u64.bits))) (2 ^ (min 8 IntKind.u64.bits))) (2 ^ (min 8 IntKind.u64.bits))) > 0))
                        none
                        none)
                      (k (bytesI [8, (IntKind.u8.wrap (Int.fdiv (Int.fdiv (Int.fdiv (Int.fdiv (Int.fdiv (Int.fdiv (Int.fdiv (iNot .u64 (IntKind.u64.wrap ((IntKind.u64.wrap n1) * 2 ^ (min 1 IntKind.u64.bits)))) (2 ^ (min 8 IntKind.u64.bits))) (2 ^ (min 8 IntKind.u64.bits))) (2 ^ (min 8 IntKind.u64.bits))) (2 ^ (min 8 IntKind.u64.bits))) (2 ^ (min 8 IntKind.u64.bits))) (2 ^ (min 8 IntKind.u64.bits))) (2 ^ (min 8 IntKind.u64.bits)))), (IntKind.u8.wrap (Int.fdiv (Int.fdiv (Int.fdiv (Int.fdiv (Int.fdiv (Int.fdiv (iNot .u64 (IntKind.u64.wrap ((IntKind.u64.wrap n1) * 2 ^ (min 1 IntKind.u64.bits)))) (2 ^ (min 8 IntKind.u64.bits))) (2 ^ (min 8 IntKind.u64.bits))) (2 ^ (min 8 IntKind.u64.bits))) (2 ^ (min 8 IntKind.u64.bits))) (2 ^ (min 8 IntKind.u64.bits))) (2 ^ (min 8 IntKind.u64.bits)))), (IntKind.u8.wrap (Int.fdiv (Int.fdiv (Int.fdiv (Int.fdiv (Int.fdiv (iNot .u64 (IntKind.u64.wrap ((IntKind.u64.wrap n1) * 2 ^ (min 1 IntKind.u64.bits)))) (2 ^ (min 8 IntKind.u64.bits))) (2 ^ (min 8 IntKind.u64.bits))) (2 ^ (min 8 IntKind.u64.bits))) (2 ^ (min 8 IntKind.u64.bits))) (2 ^ (min 8 IntKind.u64.bits)))), (IntKind.u8.wrap (Int.fdiv (Int.fdiv (Int.fdiv (Int.fdiv (iNot .u64 (IntKind.u64.wrap ((IntKind.u64.wrap n1) * 2 ^ (min 1 IntKind.u64.bits)))) (2 ^ (min 8 IntKind.u64.bits))) (2 ^ (min 8 IntKind.u64.bits))) (2 ^ (min 8 IntKind.u64.bits))) (2 ^ (min 8 IntKind.u64.bits)))), (IntKind.u8.wrap (Int.fdiv (Int.fdiv (Int.fdiv (iNot .u64 (IntKind.u64.wrap ((IntKind.u64.wrap n1) * 2 ^ (min 1 IntKind.u64.bits)))) (2 ^ (min 8 IntKind.u64.bits))) (2 ^ (min 8 IntKind.u64.bits))) (2 ^ (min 8 IntKind.u64.bits)))), (IntKind.u8.wrap (Int.fdiv (Int.fdiv (iNot .u64 (IntKind.u64.wrap ((IntKind.u64.wrap n1) * 2 ^ (min 1 IntKind.u64.bits)))) (2 ^ (min 8 IntKind.u64.bits))) (2 ^ (min 8 IntKind.u64.bits)))), (IntKind.u8.wrap (Int.fdiv (iNot .u64 (IntKind.u64.wrap ((IntKind.u64.wrap n1) * 2 ^ (min 1 IntKind.u64.bits)))) (2 ^ (min 8 IntKind.u64.bits)))), (IntKind.u8.wrap (iNot .u64 (IntKind.u64.wrap ((IntKind.u64.wrap n1) * 2 ^ (min 1 IntKind.u64.bits)))))])))
                    (k (bytesI [7, (IntKind.u8.wrap (Int.fdiv (Int.fdiv (Int.fdiv (Int.fdiv (Int.fdiv (Int.fdiv (iNot .u64 (IntKind.u64.wrap ((IntKind.u64.wrap n1) * 2 ^ (min 1 IntKind.u64.bits)))) (2 ^ (min 8 IntKind.u64.bits))) (2 ^ (min 8 IntKind.u64.bits))) (2 ^ (min 8 IntKind.u64.bits))) (2 ^ (min 8 IntKind.u64.bits))) (2 ^ (min 8 IntKind.u64.bits))) (2 ^ (min 8 IntKind.u64.bits)))), (IntKind.u8.wrap (Int.fdiv (Int.fdiv (Int.fdiv (Int.fdiv (Int.fdiv (iNot .u64 (IntKind.u64.wrap ((IntKind.u64.wrap n1) * 2 ^ (min 1 IntKind.u64.bits)))) (2 ^ (min 8 IntKind.u64.bits))) (2 ^ (min 8 IntKind.u64.bits))) (2 ^ (min 8 IntKind.u64.bits))) (2 ^ (min 8 IntKind.u64.bits))) (2 ^ (min 8 IntKind.u64.bits)))), (IntKind.u8.wrap (Int.fdiv (Int.fdiv (Int.fdiv (Int.fdiv (iNot .u64 (IntKind.u64.wrap ((IntKind.u64.wrap n1) * 2 ^ (min 1 IntKind.u64.bits)))) (2 ^ (min 8 IntKind.u64.bits))) (2 ^ (min 8 IntKind.u64.bits))) (2 ^ (min 8 IntKind.u64.bits))) (2 ^ (min 8 IntKind.u64.bits)))), (IntKind.u8.wrap (Int.fdiv (Int.fdiv (Int.fdiv (iNot .u64 (IntKind.u64.wrap ((IntKind.u64.wrap n1) * 2 ^ (min 1 IntKind.u64.bits)))) (2 ^ (min 8 IntKind.u64.bits))) (2 ^ (min 8 IntKind.u64.bits))) (2 ^ (min 8 IntKind.u64.bits)))), (IntKind.u8.wrap (Int.fdiv (Int.fdiv (iNot .u64 (IntKind.u64.wrap ((IntKind.u64.wrap n1) * 2 ^ (min 1 IntKind.u64.bits)))) (2 ^ (min 8 IntKind.u64.bits))) (2 ^ (min 8 IntKind.u64.bits)))), (IntKind.u8.wrap (Int.fdiv (iNot .u64 (IntKind.u64.wrap ((IntKind.u64.wrap n1) * 2 ^ (min 1 IntKind.u64.bits)))) (2 ^ (min 8 IntKind.u64.bits)))), (IntKind.u8.wrap (iNot .u64 (IntKind.u64.wrap ((IntKind.u64.wrap n1) * 2 ^ (min 1 IntKind.u64.bits)))))])))
                  (k (bytesI [6, (IntKind.u8.wrap (Int.fdiv (Int.fdiv (Int.fdiv (Int.fdiv (Int.fdiv (iNot .u64 (IntKind.u64.wrap ((IntKind.u64.wrap n1) * 2 ^ (min 1 IntKind.u64.bits)))) (2 ^ (min 8 IntKind.u64.bits))) (2 ^ (min 8 IntKind.u64.bits))) (2 ^ (min 8 IntKind.u64.bits))) (2 ^ (min 8 IntKind.u64.bits))) (2 ^ (min 8 IntKind.u64.bits)))), (IntKind.u8.wrap (Int.fdiv (Int.fdiv (Int.fdiv (Int.fdiv (iNot .u64 (IntKind.u64.wrap ((IntKind.u64.wrap n1) * 2 ^ (min 1 IntKind.u64.bits)))) (2 ^ (min 8 IntKind.u64.bits))) (2 ^ (min 8 IntKind.u64.bits))) (2 ^ (min 8 IntKind.u64.bits))) (2 ^ (min 8 IntKind.u64.bits)))), (IntKind.u8.wrap (Int.fdiv (Int.fdiv (Int.fdiv (iNot .u64 (IntKind.u64.wrap ((IntKind.u64.wrap n1) * 2 ^ (min 1 IntKind.u64.bits)))) (2 ^ (min 8 IntKind.u64.bits))) (2 ^ (min 8 IntKind.u64.bits))) (2 ^ (min 8 IntKind.u64.bits)))), (IntKind.u8.wrap (Int.fdiv (Int.fdiv (iNot .u64 (IntKind.u64.wrap ((IntKind.u64.wrap n1) * 2 ^ (min 1 IntKind.u64.bits)))) (2 ^ (min 8 IntKind.u64.bits))) (2 ^ (min 8 IntKind.u64.bits)))), (IntKind.u8.wrap (Int.fdiv (iNot .u64 (IntKind.u64.wrap ((IntKind.u64.wrap n1) * 2 ^ (min 1 IntKind.u64.bits)))) (2 ^ (min 8 IntKind.u64.bits)))), (IntKind.u8.wrap (iNot .u64 (IntKind.u64.wrap ((IntKind.u64.wrap n1) * 2 ^ (min 1 IntKind.u64.bits)))))])))
                (k (bytesI [5, (IntKind.u8.wrap (Int.fdiv (Int.fdiv (Int.fdiv (Int.fdiv (iNot .u64 (IntKind.u64.wrap ((IntKind.u64.wrap n1) * 2 ^ (min 1 IntKind.u64.bits)))) (2 ^ (min 8 IntKind.u64.bits))) (2 ^ (min 8 IntKind.u64.bits))) (2 ^ (min 8 IntKind.u64.bits))) (2 ^ (min 8 IntKind.u64.bits)))), (IntKind.u8.wrap (Int.fdiv (Int.fdiv (Int.fdiv (iNot .u64 (IntKind.u64.wrap ((IntKind.u64.wrap n1) * 2 ^ (min 1 IntKind.u64.bits)))) (2 ^ (min 8 IntKind.u64.bits))) (2 ^ (min 8 IntKind.u64.bits))) (2 ^ (min 8 IntKind.u64.bits)))), (IntKind.u8.wrap (Int.fdiv (Int.fdiv (iNot .u64 (IntKind.u64.wrap ((IntKind.u64.wrap n1) * 2 ^ (min 1 IntKind.u64.bits)))) (2 ^ (min 8 IntKind.u64.bits))) (2 ^ (min 8 IntKind.u64.bits)))), (IntKind.u8.wrap (Int.fdiv (iNot .u64 (IntKind.u64.wrap ((IntKind.u64.wrap n1) * 2 ^ (min 1 IntKind.u64.bits)))) (2 ^ (min 8 IntKind.u64.bits)))), (IntKind.u8.wrap (iNot .u64 (IntKind.u64.wrap ((IntKind.u64.wrap n1) * 2 ^ (min 1 IntKind.u64.bits)))))])))
              (k (bytesI [4, (IntKind.u8.wrap (Int.fdiv (Int.fdiv (Int.fdiv (iNot .u64 (IntKind.u64.wrap ((IntKind.u64.wrap n1) * 2 ^ (min 1 IntKind.u64.bits)))) (2 ^ (min 8 IntKind.u64.bits))) (2 ^ (min 8 IntKind.u64.bits))) (2 ^ (min 8 IntKind.u64.bits)))), (IntKind.u8.wrap (Int.fdiv (Int.fdiv (iNot .u64 (IntKind.u64.wrap ((IntKind.u64.wrap n1) * 2 ^ (min 1 IntKind.u64.bits)))) (2 ^ (min 8 IntKind.u64.bits))) (2 ^ (min 8 IntKind.u64.bits)))), (IntKind.u8.wrap (Int.fdiv (iNot .u64 (IntKind.u64.wrap ((IntKind.u64.wrap n1) * 2 ^ (min 1 IntKind.u64.bits)))) (2 ^ (min 8 IntKind.u64.bits)))), (IntKind.u8.wrap (iNot .u64 (IntKind.u64.wrap ((IntKind.u64.wrap n1) * 2 ^ (min 1 IntKind.u64.bits)))))])))
            (k (bytesI [3, (IntKind.u8.wrap (Int.fdiv (Int.fdiv (iNot .u64 (IntKind.u64.wrap ((IntKind.u64.wrap n1) * 2 ^ (min 1 IntKind.u64.bits)))) (2 ^ (min 8 IntKind.u64.bits))) (2 ^ (min 8 IntKind.u64.bits)))), (IntKind.u8.wrap (Int.fdiv (iNot .u64 (IntKind.u64.wrap ((IntKind.u64.wrap n1) * 2 ^ (min 1 IntKind.u64.bits)))) (2 ^ (min 8 IntKind.u64.bits)))), (IntKind.u8.wrap (iNot .u64 (IntKind.u64.wrap ((IntKind.u64.wrap n1) * 2 ^ (min 1 IntKind.u64.bits)))))])))
          (k (bytesI [2, (IntKind.u8.wrap (Int.fdiv (iNot .u64 (IntKind.u64.wrap ((IntKind.u64.wrap n1) * 2 ^ (min 1 IntKind.u64.bits)))) (2 ^ (min 8 IntKind.u64.bits)))), (IntKind.u8.wrap (iNot .u64 (IntKind.u64.wrap ((IntKind.u64.wrap n1) * 2 ^ (min 1 IntKind.u64.bits)))))])))
        (k (bytesI [1, (IntKind.u8.wrap (iNot .u64 (IntKind.u64.wrap ((IntKind.u64.wrap n1) * 2 ^ (min 1 IntKind.u64.bits)))))])))
      (k (bytesI [0])))
    (cond (decide ((IntKind.u64.wrap ((IntKind.u64.wrap n1) * 2 ^ (min 1 IntKind.u64.bits))) > 0))
      (cond (decide ((Int.fdiv (IntKind.u64.wrap ((IntKind.u64.wrap n1) * 2 ^ (min 1 IntKind.u64.bits))) (2 ^ (min 8 IntKind.u64.bits))) > 0))
        (cond (decide ((Int.fdiv (Int.fdiv (IntKind.u64.wrap ((IntKind.u64.wrap n1) * 2 ^ (min 1 IntKind.u64.bits))) (2 ^ (min 8 IntKind.u64.bits))) (2 ^ (min 8 IntKind.u64.bits))) > 0))
          (cond (decide ((Int.fdiv (Int.fdiv (Int.fdiv (IntKind.u64.wrap ((IntKind.u64.wrap n1) * 2 ^ (min 1 IntKind.u64.bits))) (2 ^ (min 8 IntKind.u64.bits))) (2 ^ (min 8 IntKind.u64.bits))) (2 ^ (min 8 IntKind.u64.bits))) > 0))
            (cond (decide ((Int.fdiv (Int.fdiv (Int.fdiv (Int.fdiv (IntKind.u64.wrap ((IntKind.u64.wrap n1) * 2 ^ (min 1 IntKind.u64.bits))) (2 ^ (min 8 IntKind.u64.bits))) (2 ^ (min 8 IntKind.u64.bits))) (2 ^ (min 8 IntKind.u64.bits))) (2 ^ (min 8 IntKind.u64.bits))) > 0))
              (cond (decide ((Int.fdiv (Int.fdiv (Int.fdiv (Int.fdiv (Int.fdiv (IntKind.u64.wrap ((IntKind.u64.wrap n1) * 2 ^ (min 1 IntKind.u64.bits))) (2 ^ (min 8 IntKind.u64.bits))) (2 ^ (min 8 IntKind.u64.bits))) (2 ^ (min 8 IntKind.u64.bits))) (2 ^ (min 8 IntKind.u64.bits))) (2 ^ (min 8 IntKind.u64.bits))) > 0))
                (cond (decide ((Int.fdiv (Int.fdiv (Int.fdiv (Int.fdiv (Int.fdiv (Int.fdiv (IntKind.u64.wrap ((IntKind.u64.wrap n1) * 2 ^ (min 1 IntKind.u64.bits))) (2 ^ (min 8 IntKind.u64.bits))) (2 ^ (min 8 IntKind.u64.bits))) (2 ^ (min 8 IntKind.u64.bits))) (2 ^ (min 8 IntKind.u64.bits))) (2 ^ (min 8 IntKind.u64.bits))) (2 ^ (min 8 IntKind.u64.bits))) > 0))
                  (cond (decide ((Int.fdiv (Int.fdiv (Int.fdiv (Int.fdiv (Int.fdiv (Int.fdiv (Int.fdiv (IntKind.u64.wrap ((IntKind.u64.wrap n1) * 2 ^ (min 1 IntKind.u64.bits))) (2 ^ (min 8 IntKind.u64.bits))) (2 ^ (min 8 IntKind.u64.bits))) (2 ^ (min 8 IntKind.u64.bits))) (2 ^ (min 8 IntKind.u64.bits))) (2 ^ (min 8 IntKind.u64.bits))) (2 ^ (min 8 IntKind.u64.bits))) (2 ^ (min 8 IntKind.u64.bits))) > 0))
                    (cond (decide ((Int.fdiv (Int.fdiv (Int.fdiv (Int.fdiv (Int.fdiv (Int.fdiv (Int.fdiv (Int.fdiv (IntKind.u64.wrap ((IntKind.u64.wrap n1) * 2 ^ (min 1 IntKind.u64.bits))) (2 ^ (min 8 IntKind.u64.bits))) (2 ^ (min 8 IntKind.u64.bits))) (2 ^ (min 8 IntKind.u64.bits))) (2 ^ (min 8 IntKind.u64.bits))) (2 ^ (min 8 IntKind.u64.bits))) (2 ^ (min 8 IntKind.u64.bits))) (2 ^ (min 8 IntKind.u64.bits))) (2 ^ (min 8 IntKind.u64.bits))) > 0))
                      (cond (decide ((Int.fdiv (Int.fdiv (Int.fdiv (Int.fdiv (Int.fdiv (Int.fdiv (Int.fdiv (Int.fdiv (Int.fdiv (IntKind.u64.wrap ((IntKind.u64.wrap n1) * 2 ^ (min 1 IntKind.u64.bits))) (2 ^ (min 8 IntKind.u64.bits))) (2 ^ (min 8 IntKind.u64.bits))) (2 ^ (min 8 IntKind.u64.bits))) (2 ^ (min 8 IntKind.u64.bits))) (2 ^ (min 8 IntKind.u64.bits))) (2 ^ (min 8 IntKind.u64.bits))) (2 ^ (min 8 IntKind.u64.bits))) (2 ^ (min 8 IntKind.u64.bits))) (2 ^ (min 8 IntKind.u64.bits))) > 0))
                        none
                        none)
                      (k (bytesI [8, (IntKind.u8.wrap (Int.fdiv (Int.fdiv (Int.fdiv (Int.fdiv (Int.fdiv (Int.fdiv (Int.fdiv (IntKind.u64.wrap ((IntKind.u64.wrap n1) * 2 ^ (min 1 IntKind.u64.bits))) (2 ^ (min 8 IntKind.u64.bits))) (2 ^ (min 8 IntKind.u64.bits))) (2 ^ (min 8 IntKind.u64.bits))) (2 ^ (min 8 IntKind.u64.bits))) (2 ^ (min 8 IntKind.u64.bits))) (2 ^ (min 8 IntKind.u64.bits))) (2 ^ (min 8 IntKind.u64.bits)))), (IntKind.u8.wrap (Int.fdiv (Int.fdiv (Int.fdiv (Int.fdiv (Int.fdiv (Int.fdiv (IntKind.u64.wrap ((IntKind.u64.wrap n1) * 2 ^ (min 1 IntKind.u64.bits))) (2 ^ (min 8 IntKind.u64.bits))) (2 ^ (min 8 IntKind.u64.bits))) (2 ^ (min 8 IntKind.u64.bits))) (2 ^ (min 8 IntKind.u64.bits))) (2 ^ (min 8 IntKind.u64.bits))) (2 ^ (min 8 IntKind.u64.bits)))), (IntKind.u8.wrap (Int.fdiv (Int.fdiv (Int.fdiv (Int.fdiv (Int.fdiv (IntKind.u64.wrap ((IntKind.u64.wrap n1) * 2 ^ (min 1 IntKind.u64.bits))) (2 ^ (min 8 IntKind.u64.bits))) (2 ^ (min 8 IntKind.u64.bits))) (2 ^ (min 8 IntKind.u64.bits))) (2 ^ (min 8 IntKind.u64.bits))) (2 ^ (min 8 IntKind.u64.bits)))), (IntKind.u8.wrap (Int.fdiv (Int.fdiv (Int.fdiv (Int.fdiv (IntKind.u64.wrap ((IntKind.u64.wrap n1) * 2 ^ (min 1 IntKind.u64.bits))) (2 ^ (min 8 IntKind.u64.bits))) (2 ^ (min 8 IntKind.u64.bits))) (2 ^ (min 8 IntKind.u64.bits))) (2 ^ (min 8 IntKind.u64.bits)))), (IntKind.u8.wrap (Int.fdiv (Int.fdiv (Int.fdiv (IntKind.u64.wrap ((IntKind.u64.wrap n1) * 2 ^ (min 1 IntKind.u64.bits))) (2 ^ (min 8 IntKind.u64.bits))) (2 ^ (min 8 IntKind.u64.bits))) (2 ^ (min 8 IntKind.u64.bits)))), (IntKind.u8.wrap (Int.fdiv (Int.fdiv (IntKind.u64.wrap ((IntKind.u64.wrap n1) * 2 ^ (min 1 IntKind.u64.bits))) (2 ^ (min 8 IntKind.u64.bits))) (2 ^ (min 8 IntKind.u64.bits)))), (IntKind.u8.wrap (Int.fdiv (IntKind.u64.wrap ((IntKind.u64.wrap n1) * 2 ^ (min 1 IntKind.u64.bits))) (2 ^ (min 8 IntKind.u64.bits)))), (IntKind.u8.wrap (IntKind.u64.wrap ((IntKind.u64.wrap n1) * 2 ^ (min 1 IntKind.u64.bits))))])))
                    (k (bytesI [7, (IntKind.u8.wrap (Int.fdiv (Int.fdiv (Int.fdiv (Int.fdiv (Int.fdiv (Int.fdiv (IntKind.u64.wrap ((IntKind.u64.wrap n1) * 2 ^ (min 1 IntKind.u64.bits))) (2 ^ (min 8 IntKind.u64.bits))) (2 ^ (min 8 IntKind.u64.bits))) (2 ^ (min 8 IntKind.u64.bits))) (2 ^ (min 8 IntKind.u64.bits))) (2 ^ (min 8 IntKind.u64.bits))) (2 ^ (min 8 IntKind.u64.bits)))), (IntKind.u8.wrap (Int.fdiv (Int.fdiv (Int.fdiv (Int.fdiv (Int.fdiv (IntKind.u64.wrap ((IntKind.u64.wrap n1) * 2 ^ (min 1 IntKind.u64.bits))) (2 ^ (min 8 IntKind.u64.bits))) (2 ^ (min 8 IntKind.u64.bits))) (2 ^ (min 8 IntKind.u64.bits))) (2 ^ (min 8 IntKind.u64.bits))) (2 ^ (min 8 IntKind.u64.bits)))), (IntKind.u8.wrap (Int.fdiv (Int.fdiv (Int.fdiv (Int.fdiv (IntKind.u64.wrap ((IntKind.u64.wrap n1) * 2 ^ (min 1 IntKind.u64.bits))) (2 ^ (min 8 IntKind.u64.bits))) (2 ^ (min 8 IntKind.u64.bits))) (2 ^ (min 8 IntKind.u64.bits))) (2 ^ (min 8 IntKind.u64.bits)))), (IntKind.u8.wrap (Int.fdiv (Int.fdiv (Int.fdiv (IntKind.u64.wrap ((IntKind.u64.wrap n1) * 2 ^ (min 1 IntKind.u64.bits))) (2 ^ (min 8 IntKind.u64.bits))) (2 ^ (min 8 IntKind.u64.bits))) (2 ^ (min 8 IntKind.u64.bits)))), (IntKind.u8.wrap (Int.fdiv (Int.fdiv (IntKind.u64.wrap ((IntKind.u64.wrap n1) * 2 ^ (min 1 IntKind.u64.bits))) (2 ^ (min 8 IntKind.u64.bits))) (2 ^ (min 8 IntKind.u64.bits)))), (IntKind.u8.wrap (Int.fdiv (IntKind.u64.wrap ((IntKind.u64.wrap n1) * 2 ^ (min 1 IntKind.u64.bits))) (2 ^ (min 8 IntKind.u64.bits)))), (IntKind.u8.wrap (IntKind.u64.wrap ((IntKind.u64.wrap n1) * 2 ^ (min 1 IntKind.u64.bits))))])))
                  (k (bytesI [6, (IntKind.u8.wrap (Int.fdiv (Int.fdiv (Int.fdiv (Int.fdiv (Int.fdiv (IntKind.u64.wrap ((IntKind.u64.wrap n1) * 2 ^ (min 1 IntKind.u64.bits))) (2 ^ (min 8 IntKind.u64.bits))) (2 ^ (min 8 IntKind.u64.bits))) (2 ^ (min 8 IntKind.u64.bits))) (2 ^ (min 8 IntKind.u64.bits))) (2 ^ (min 8 IntKind.u64.bits)))), (IntKind.u8.wrap (Int.fdiv (Int.fdiv (Int.fdiv (Int.fdiv (IntKind.u64.wrap ((IntKind.u64.wrap n1) * 2 ^ (min 1 IntKind.u64.bits))) (2 ^ (min 8 IntKind.u64.bits))) (2 ^ (min 8 IntKind.u64.bits))) (2 ^ (min 8 IntKind.u64.bits))) (2 ^ (min 8 IntKind.u64.bits)))), (IntKind.u8.wrap (Int.fdiv (Int.fdiv (Int.fdiv (IntKind.u64.wrap ((IntKind.u64.wrap n1) * 2 ^ (min 1 IntKind.u64.bits))) (2 ^ (min 8 IntKind.u64.bits))) (2 ^ (min 8 IntKind.u64.bits))) (2 ^ (min 8 IntKind.u64.bits)))), (IntKind.u8.wrap (Int.fdiv (Int.fdiv (IntKind.u64.wrap ((IntKind.u64.wrap n1) * 2 ^ (min 1 IntKind.u64.bits))) (2 ^ (min 8 IntKind.u64.bits))) (2 ^ (min 8 IntKind.u64.bits)))), (IntKind.u8.wrap (Int.fdiv (IntKind.u64.wrap ((IntKind.u64.wrap n1) * 2 ^ (min 1 IntKind.u64.bits))) (2 ^ (min 8 IntKind.u64.bits)))), (IntKind.u8.wrap (IntKind.u64.wrap ((IntKind.u64.wrap n1) * 2 ^ (min 1 IntKind.u64.bits))))])))
                (k (bytesI [5, (IntKind.u8.wrap (Int.fdiv (Int.fdiv (Int.fdiv (Int.fdiv (IntKind.u64.wrap ((IntKind.u64.wrap n1) * 2 ^ (min 1 IntKind.u64.bits))) (2 ^ (min 8 IntKind.u64.bits))) (2 ^ (min 8 IntKind.u64.bits))) (2 ^ (min 8 IntKind.u64.bits))) (2 ^ (min 8 IntKind.u64.bits)))), (IntKind.u8.wrap (Int.fdiv (Int.fdiv (Int.fdiv (IntKind.u64.wrap ((IntKind.u64.wrap n1) * 2 ^ (min 1 IntKind.u64.bits))) (2 ^ (min 8 IntKind.u64.bits))) (2 ^ (min 8 IntKind.u64.bits))) (2 ^ (min 8 IntKind.u64.bits)))), (IntKind.u8.wrap (Int.fdiv (Int.fdiv (IntKind.u64.wrap ((IntKind.u64.wrap n1) * 2 ^ (min 1 IntKind.u64.bits))) (2 ^ (min 8 IntKind.u64.bits))) (2 ^ (min 8 IntKind.u64.bits)))), (IntKind.u8.wrap (Int.fdiv (IntKind.u64.wrap ((IntKind.u64.wrap n1) * 2 ^ (min 1 IntKind.u64.bits))) (2 ^ (min 8 IntKind.u64.bits)))), (IntKind.u8.wrap (IntKind.u64.wrap ((IntKind.u64.wrap n1) * 2 ^ (min 1 IntKind.u64.bits))))])))
              (k (bytesI [4, (IntKind.u8.wrap (Int.fdiv (Int.fdiv (Int.fdiv (IntKind.u64.wrap ((IntKind.u64.wrap n1) * 2 ^ (min 1 IntKind.u64.bits))) (2 ^ (min 8 IntKind.u64.bits))) (2 ^ (min 8 IntKind.u64.bits))) (2 ^ (min 8 IntKind.u64.bits)))), (IntKind.u8.wrap (Int.fdiv (Int.fdiv (IntKind.u64.wrap ((IntKind.u64.wrap n1) * 2 ^ (min 1 IntKind.u64.bits))) (2 ^ (min 8 IntKind.u64.bits))) (2 ^ (min 8 IntKind.u64.bits)))), (IntKind.u8.wrap (Int.fdiv (IntKind.u64.wrap ((IntKind.u64.wrap n1) * 2 ^ (min 1 IntKind.u64.bits))) (2 ^ (min 8 IntKind.u64.bits)))), (IntKind.u8.wrap (IntKind.u64.wrap ((IntKind.u64.wrap n1) * 2 ^ (min 1 IntKind.u64.bits))))])))
            (k (bytesI [3, (IntKind.u8.wrap (Int.fdiv (Int.fdiv (IntKind.u64.wrap ((IntKind.u64.wrap n1) * 2 ^ (min 1 IntKind.u64.bits))) (2 ^ (min 8 IntKind.u64.bits))) (2 ^ (min 8 IntKind.u64.bits)))), (IntKind.u8.wrap (Int.fdiv (IntKind.u64.wrap ((IntKind.u64.wrap n1) * 2 ^ (min 1 IntKind.u64.bits))) (2 ^ (min 8 IntKind.u64.bits)))), (IntKind.u8.wrap (IntKind.u64.wrap ((IntKind.u64.wrap n1) * 2 ^ (min 1 IntKind.u64.bits))))])))
          (k (bytesI [2, (IntKind.u8.wrap (Int.fdiv (IntKind.u64.wrap ((IntKind.u64.wrap n1) * 2 ^ (min 1 IntKind.u64.bits))) (2 ^ (min 8 IntKind.u64.bits)))), (IntKind.u8.wrap (IntKind.u64.wrap ((IntKind.u64.wrap n1) * 2 ^ (min 1 IntKind.u64.bits))))])))
        (k (bytesI [1, (IntKind.u8.wrap (IntKind.u64.wrap ((IntKind.u64.wrap n1) * 2 ^ (min 1 IntKind.u64.bits))))])))
      (k (bytesI [0]))))

noncomputable def wire_Int_sp {α : Type} (wire_Int : wire_Int_T α) : FunSpec α := ⟨53, [.int .i64], [], fun ds k => wire_Int (hdI ds) (fun r1 => k (enc dep (.str) [.s r1]).1 [])⟩

noncomputable def wire_Int_spec {α : Type} : FunSpec α := wire_Int_sp wire_Int

noncomputable def wire_Int_C {α : Type} : List (FunSpec α) := []

noncomputable def wire_Int_q : FuncId → Bool := fun f => false

noncomputable def wire_Int_inl : FuncId → Bool := fun f => false

noncomputable def wire_Int_ann : FuncId → AnnT := fun f p => if f = 53 then (if p = [false, true, true, true, true, true] then ⟨[3, 4, 5], [0, 1, 2, 3, 4, 5, 6, 7, 8, 9, 10, 11, 12, 13, 14, 15, 16, 17, 18, 19, 20, 21, 22, 23, 24, 25, 26, 27, 28, 29, 30, 31, 32, 33, 34, 35, 36, 37, 38, 39, 40, 41, 42, 43, 44, 45, 46, 47], [4, 5], [2], 0, [], []⟩ else ⟨[], [], [], [], 0, [], []⟩) else ⟨[], [], [], [], 0, [], []⟩

noncomputable def wire_Int_loops {α : Type} : List (LoopSpec α) := []

theorem wire_Int_ev {α : Type} : EvOk (α := α) Go.Proofs.Try.prog (envOf (wire_Int_C) wire_Int_q wire_Int_inl 1000 wire_Int_ann false (wire_Int_loops) (fun _ => none)) 6 (wire_Int_sp (wire_Int)) := by intro ds k; kernel_rfl

theorem wire_Int_ok {α : Type} : (wire_Int_spec : FunSpec α).ok Go.Proofs.Try.prog :=
  FunSpec.ok_of (sp := wire_Int_spec) (C := wire_Int_C) (q := wire_Int_q) (inl := wire_Int_inl) (N := 1000) (ann := wire_Int_ann) (fr := false) (D := 6) (l := (wire_Int_loops)) (hk := (fun _ => none)) okNil lokNil noHooks (wire_Int_ev)

end
end Go.Rv.Try

set_option linter.unusedVariables false
set_option maxRecDepth 100000
set_option maxHeartbeats 4000000
namespace Go.Rv.Try
open Go Go.Rv Go.RowKit
noncomputable section

-- drayman/wire.Text

abbrev wire_Text_T (α : Type) : Type := ByteArray → (ByteArray → Option α) → Option α

noncomputable def wire_Text_g {α : Type} (wire_Int : wire_Int_T α) (s1 : ByteArray) (k : ByteArray → Option α) : Option α :=
  (wire_Int (s1.size : Int) fun r2 =>
    (cond (decide ((((r2).size + (s1).size : Nat) : Int) ≤ IntKind.i64.max))
      (k (r2 ++ s1))
      none))

noncomputable def wire_Text {α : Type} : wire_Text_T α := wire_Text_g wire_Int

noncomputable def wire_Text_sp {α : Type} (wire_Text : wire_Text_T α) : FunSpec α := ⟨57, [.str], [], fun ds k => wire_Text (hdS ds) (fun r1 => k (enc dep (.str) [.s r1]).1 [])⟩

noncomputable def wire_Text_spec {α : Type} : FunSpec α := wire_Text_sp wire_Text

noncomputable def wire_Text_C {α : Type} (wire_Int : wire_Int_T α) : List (FunSpec α) := [wire_Int_sp wire_Int]

noncomputable def wire_Text_q : FuncId → Bool := fun f => Nat.beq f 53

noncomputable def wire_Text_inl : FuncId → Bool := fun f => false

noncomputable def wire_Text_ann : FuncId → AnnT := fun f p => ⟨[], [], [], [], 0, [], []⟩

noncomputable def wire_Text_loops {α : Type} (wire_Int : wire_Int_T α) : List (LoopSpec α) := []

theorem wire_Text_ev {α : Type} (wire_Int : wire_Int_T α) : EvOk (α := α) Go.Proofs.Try.prog (envOf (wire_Text_C wire_Int) wire_Text_q wire_Text_inl 1000 wire_Text_ann false (wire_Text_loops wire_Int) (fun _ => none)) 6 (wire_Text_sp (wire_Text_g wire_Int)) := by intro ds k; kernel_rfl

theorem wire_Text_ok {α : Type} : (wire_Text_spec : FunSpec α).ok Go.Proofs.Try.prog :=
  FunSpec.ok_of (sp := wire_Text_spec) (C := wire_Text_C wire_Int) (q := wire_Text_q) (inl := wire_Text_inl) (N := 1000) (ann := wire_Text_ann) (fr := false) (D := 6) (l := (wire_Text_loops wire_Int)) (hk := (fun _ => none)) (okCons wire_Int_ok okNil) lokNil noHooks (wire_Text_ev wire_Int)

end
end Go.Rv.Try

set_option linter.unusedVariables false
set_option maxRecDepth 100000
set_option maxHeartbeats 4000000
namespace Go.Rv.Try
open Go Go.Rv Go.RowKit
noncomputable section

-- drayman/wire.number

abbrev wire_number_T (α : Type) : Type := ByteArray → (Int → Int → Option α) → Option α

noncomputable def wire_number_l0_step {α : Type} (k0 : (Int) → (Int) → (Seq (Int × Unit)) → Option α) (rec : (Int) → (Int) → (Int) → (Int) → (Seq (Int × Unit)) → Option α) (x2 : Int) (p3 : Int) (x4 : Int) (x5 : Int) (q6 : Seq (Int × Unit)) : Option α :=
  (cond (decide (x5 < x4))
    (cond ((decide ((0 : Int) ≤ x5)) && (decide (x5 < (q6.n : Int))))
      (cond (Nat.blt x5.toNat q6.n)
        (rec x2 (iOr .u64 (IntKind.u64.wrap (p3 * 2 ^ (min 8 IntKind.u64.bits))) (IntKind.u64.wrap (q6.g x5.toNat).1)) x4 (IntKind.i64.wrap (x5 + 1)) q6)
        none)
      none)
    (k0 x2 p3 q6))

noncomputable def wire_number_l0_run {α : Type} (k0 : (Int) → (Int) → (Seq (Int × Unit)) → Option α) : Nat → (Int) → (Int) → (Int) → (Int) → (Seq (Int × Unit)) → Option α
  | 0, _, _, _, _, _ => none
  | n + 1, x2, p3, x4, x5, q6 => wire_number_l0_step k0 (fun x2 p3 x4 x5 q6 => wire_number_l0_run k0 n x2 p3 x4 x5 q6) x2 p3 x4 x5 q6

noncomputable def wire_number {α : Type} (s1 : ByteArray) (k : Int → Int → Option α) : Option α :=
  (cond (!(s1.toList == (⟨#[]⟩ : ByteArray).toList))
    (cond (decide ((0 : Int) < (s1.size : Int)))
      (cond (!(decide ((byteAt s1 0) > 8)))
        (cond (decide ((0 : Int) < (s1.size : Int)))
          (cond (!(decide ((s1.size : Int) ≤ (IntKind.i64.wrap (byteAt s1 0)))))
            (cond (decide ((0 : Int) < (s1.size : Int)))
              (cond (decide ((byteAt s1 0) > 0))
                (cond (decide ((1 : Int) < (s1.size : Int)))
                  (cond ((byteAt s1 1) == 0)
                    (k 0 0)
                    (cond (decide ((0 : Int) < (s1.size : Int)))
                      (cond ((((decide ((0 : Int) ≤ (IntKind.i64.wrap (1 + (IntKind.i64.wrap (byteAt s1 0)))))) && (decide ((IntKind.i64.wrap (1 + (IntKind.i64.wrap (byteAt s1 0)))) ≤ (s1.size : Int)))) && true) && (decide ((1 : Int) ≤ (IntKind.i64.wrap (1 + (IntKind.i64.wrap (byteAt s1 0)))))))
                        (wire_number_l0_run
                          (fun x7 x8 q9 =>
                            (cond ((iAnd .u64 x8 1) == 1)
                              (k (iNot .i64 (IntKind.i64.wrap (Int.fdiv x8 (2 ^ (min 1 IntKind.u64.bits))))) x7)
                              (k (IntKind.i64.wrap (Int.fdiv x8 (2 ^ (min 1 IntKind.u64.bits)))) x7)))
                          1000 (IntKind.i64.wrap (1 + (IntKind.i64.wrap (byteAt s1 0)))) 0 (((s1.extract 1 (IntKind.i64.wrap (1 + (IntKind.i64.wrap (byteAt s1 0)))).toNat).size : Nat) : Int) 0 (⟨false, (s1.extract 1 (IntKind.i64.wrap (1 + (IntKind.i64.wrap (byteAt s1 0)))).toNat).size, (byteG (s1.extract 1 (IntKind.i64.wrap (1 + (IntKind.i64.wrap (byteAt s1 0)))).toNat))⟩ : Seq (Int × Unit)))
                        none)
                      none))
                  none)
                (cond (decide ((0 : Int) < (s1.size : Int)))
                  (cond ((((decide ((0 : Int) ≤ (IntKind.i64.wrap (1 + (IntKind.i64.wrap (byteAt s1 0)))))) && (decide ((IntKind.i64.wrap (1 + (IntKind.i64.wrap (byteAt s1 0)))) ≤ (s1.size : Int)))) && true) && (decide ((1 : Int) ≤ (IntKind.i64.wrap (1 + (IntKind.i64.wrap (byteAt s1 0)))))))
                    (wire_number_l0_run
                      (fun x10 x11 q12 =>
                        (cond ((iAnd .u64 x11 1) == 1)
                          (k (iNot .i64 (IntKind.i64.wrap (Int.fdiv x11 (2 ^ (min 1 IntKind.u64.bits))))) x10)
                          (k (IntKind.i64.wrap (Int.fdiv x11 (2 ^ (min 1 IntKind.u64.bits)))) x10)))
                      1000 (IntKind.i64.wrap (1 + (IntKind.i64.wrap (byteAt s1 0)))) 0 (((s1.extract 1 (IntKind.i64.wrap (1 + (IntKind.i64.wrap (byteAt s1 0)))).toNat).size : Nat) : Int) 0 (⟨false, (s1.extract 1 (IntKind.i64.wrap (1 + (IntKind.i64.wrap (byteAt s1 0)))).toNat).size, (byteG (s1.extract 1 (IntKind.i64.wrap (1 + (IntKind.i64.wrap (byteAt s1 0)))).toNat))⟩ : Seq (Int × Unit)))
                    none)
                  none))
              none)
            (k 0 0))
          none)
        (k 0 0))
      none)
    (k 0 0))

noncomputable def wire_number_sp {α : Type} (wire_number : wire_number_T α) : FunSpec α := ⟨79, [.str], [], fun ds k => wire_number (hdS ds) (fun r1 r2 => k (enc dep (.tup [.int .i64, .int .i64]) [.i r1, .i r2]).1 [])⟩

noncomputable def wire_number_spec {α : Type} : FunSpec α := wire_number_sp wire_number

noncomputable def wire_number_C {α : Type} : List (FunSpec α) := []

noncomputable def wire_number_q : FuncId → Bool := fun f => false

noncomputable def wire_number_inl : FuncId → Bool := fun f => false

noncomputable def wire_number_ann : FuncId → AnnT := fun f p => if f = 79 then (if p = [true, false, true, true, true, true] then ⟨[4, 5, 41, 42, 43], [0], [4, 5], [2, 3], 0, [], []⟩ else ⟨[], [], [], [], 0, [], []⟩) else ⟨[], [], [], [], 0, [], []⟩

noncomputable def wire_number_l0_t : List Sh := [.dead, .dead, .dead, .dead, .int .i64, .int .u64, .dead, .dead, .dead, .dead, .dead, .dead, .dead, .dead, .dead, .dead, .dead, .dead, .dead, .dead, .dead, .dead, .dead, .dead, .dead, .dead, .dead, .dead, .dead, .dead, .dead, .dead, .dead, .dead, .dead, .dead, .dead, .dead, .dead, .dead, .dead, .own 0, .int .i64, .int .i64, .dead, .dead, .dead, .dead, .dead, .dead, .dead, .dead, .dead, .dead, .dead, .dead, .dead, .dead, .dead, .dead, .dead, .dead, .dead]
noncomputable def wire_number_l0_s : List (List Sh) := []
noncomputable def wire_number_l0_h : List BSh := [.row true (.int .u8 (.nil))]

noncomputable def wire_number_l0_spec {α : Type} : LoopSpec α := ⟨6, 79, [true, false, true, true, true, true], wire_number_l0_t, wire_number_l0_s, wire_number_l0_h, fun ds k => wire_number_l0_run (fun y1 y2 y3 => k (.exit 0) (encSt [.dead, .dead, .dead, .dead, .int .i64, .int .u64, .dead, .dead, .dead, .dead, .dead, .dead, .dead, .dead, .dead, .dead, .dead, .dead, .dead, .dead, .dead, .dead, .dead, .dead, .dead, .dead, .dead, .dead, .dead, .dead, .dead, .dead, .dead, .dead, .dead, .dead, .dead, .dead, .dead, .dead, .dead, .dead, .dead, .dead, .dead, .dead, .dead, .dead, .dead, .dead, .dead, .dead, .dead, .dead, .dead, .dead, .dead, .dead, .dead, .dead, .dead, .dead, .dead] [] [.row true (.int .u8 (.nil))] [.i y1, .i y2, .q (.int .u8 (.nil)) y3])) 1000 (hdI ds) (hdI ds.tail) (hdI ds.tail.tail) (hdI ds.tail.tail.tail) (hdQ (.int .u8 (.nil)) ds.tail.tail.tail.tail)⟩

noncomputable def wire_number_loops {α : Type} : List (LoopSpec α) := [wire_number_l0_spec]

noncomputable def wire_number_l0_ev {α : Type} (n : Nat) (st : St) (k : X → St → Option α) : Option α := loopN (evCode Go.Proofs.Try.prog (callD Go.Proofs.Try.prog (envOf (wire_number_C) wire_number_q wire_number_inl 1000 wire_number_ann false (wire_number_loops) (fun _ => none)) 6) (((envOf (wire_number_C) wire_number_q wire_number_inl 1000 wire_number_ann false (wire_number_loops) (fun _ => none)) : Env α).L 6 79) 1000 (wire_number_ann 79) (false :: [true, false, true, true, true, true]) (loopC Go.Proofs.Try.prog 79 [true, false, true, true, true, true])) ((wire_number_ann 79 [true, false, true, true, true, true]).head 1) ((wire_number_ann 79 [true, false, true, true, true, true]).leave 1) n st k

theorem wire_number_l0_eq {α : Type} : ∀ (n : Nat) (x2 : Int) (p3 : Int) (x4 : Int) (x5 : Int) (q6 : Seq (Int × Unit)) (k : X → St → Option α), wire_number_l0_ev n (encSt wire_number_l0_t wire_number_l0_s wire_number_l0_h [.i x2, .i p3, .i x4, .i x5, .q (.int .u8 (.nil)) q6]) k = wire_number_l0_run (fun y1 y2 y3 => k (.exit 0) (encSt [.dead, .dead, .dead, .dead, .int .i64, .int .u64, .dead, .dead, .dead, .dead, .dead, .dead, .dead, .dead, .dead, .dead, .dead, .dead, .dead, .dead, .dead, .dead, .dead, .dead, .dead, .dead, .dead, .dead, .dead, .dead, .dead, .dead, .dead, .dead, .dead, .dead, .dead, .dead, .dead, .dead, .dead, .dead, .dead, .dead, .dead, .dead, .dead, .dead, .dead, .dead, .dead, .dead, .dead, .dead, .dead, .dead, .dead, .dead, .dead, .dead, .dead, .dead, .dead] [] [.row true (.int .u8 (.nil))] [.i y1, .i y2, .q (.int .u8 (.nil)) y3])) n x2 p3 x4 x5 q6 := by
  intro n
  induction n with
  | zero => intros; kernel_rfl
  | succ n ih =>
    intro x2 p3 x4 x5 q6 k
    have e : (fun (x2 : Int) (p3 : Int) (x4 : Int) (x5 : Int) (q6 : Seq (Int × Unit)) => wire_number_l0_ev n (encSt wire_number_l0_t wire_number_l0_s wire_number_l0_h [.i x2, .i p3, .i x4, .i x5, .q (.int .u8 (.nil)) q6]) k) = (fun (x2 : Int) (p3 : Int) (x4 : Int) (x5 : Int) (q6 : Seq (Int × Unit)) => wire_number_l0_run (fun y1 y2 y3 => k (.exit 0) (encSt [.dead, .dead, .dead, .dead, .int .i64, .int .u64, .dead, .dead, .dead, .dead, .dead, .dead, .dead, .dead, .dead, .dead, .dead, .dead, .dead, .dead, .dead, .dead, .dead, .dead, .dead, .dead, .dead, .dead, .dead, .dead, .dead, .dead, .dead, .dead, .dead, .dead, .dead, .dead, .dead, .dead, .dead, .dead, .dead, .dead, .dead, .dead, .dead, .dead, .dead, .dead, .dead, .dead, .dead, .dead, .dead, .dead, .dead, .dead, .dead, .dead, .dead, .dead, .dead] [] [.row true (.int .u8 (.nil))] [.i y1, .i y2, .q (.int .u8 (.nil)) y3])) n x2 p3 x4 x5 q6) := by
      funext x2 p3 x4 x5 q6
      exact ih x2 p3 x4 x5 q6 k
    have h1 : wire_number_l0_ev (n + 1) (encSt wire_number_l0_t wire_number_l0_s wire_number_l0_h [.i x2, .i p3, .i x4, .i x5, .q (.int .u8 (.nil)) q6]) k = wire_number_l0_step (fun y1 y2 y3 => k (.exit 0) (encSt [.dead, .dead, .dead, .dead, .int .i64, .int .u64, .dead, .dead, .dead, .dead, .dead, .dead, .dead, .dead, .dead, .dead, .dead, .dead, .dead, .dead, .dead, .dead, .dead, .dead, .dead, .dead, .dead, .dead, .dead, .dead, .dead, .dead, .dead, .dead, .dead, .dead, .dead, .dead, .dead, .dead, .dead, .dead, .dead, .dead, .dead, .dead, .dead, .dead, .dead, .dead, .dead, .dead, .dead, .dead, .dead, .dead, .dead, .dead, .dead, .dead, .dead, .dead, .dead] [] [.row true (.int .u8 (.nil))] [.i y1, .i y2, .q (.int .u8 (.nil)) y3])) (fun (x2 : Int) (p3 : Int) (x4 : Int) (x5 : Int) (q6 : Seq (Int × Unit)) => wire_number_l0_ev n (encSt wire_number_l0_t wire_number_l0_s wire_number_l0_h [.i x2, .i p3, .i x4, .i x5, .q (.int .u8 (.nil)) q6]) k) x2 p3 x4 x5 q6 := by kernel_rfl
    have h2 := congrArg (fun r => wire_number_l0_step (fun y1 y2 y3 => k (.exit 0) (encSt [.dead, .dead, .dead, .dead, .int .i64, .int .u64, .dead, .dead, .dead, .dead, .dead, .dead, .dead, .dead, .dead, .dead, .dead, .dead, .dead, .dead, .dead, .dead, .dead, .dead, .dead, .dead, .dead, .dead, .dead, .dead, .dead, .dead, .dead, .dead, .dead, .dead, .dead, .dead, .dead, .dead, .dead, .dead, .dead, .dead, .dead, .dead, .dead, .dead, .dead, .dead, .dead, .dead, .dead, .dead, .dead, .dead, .dead, .dead, .dead, .dead, .dead, .dead, .dead] [] [.row true (.int .u8 (.nil))] [.i y1, .i y2, .q (.int .u8 (.nil)) y3])) r x2 p3 x4 x5 q6) e
    have h3 : wire_number_l0_step (fun y1 y2 y3 => k (.exit 0) (encSt [.dead, .dead, .dead, .dead, .int .i64, .int .u64, .dead, .dead, .dead, .dead, .dead, .dead, .dead, .dead, .dead, .dead, .dead, .dead, .dead, .dead, .dead, .dead, .dead, .dead, .dead, .dead, .dead, .dead, .dead, .dead, .dead, .dead, .dead, .dead, .dead, .dead, .dead, .dead, .dead, .dead, .dead, .dead, .dead, .dead, .dead, .dead, .dead, .dead, .dead, .dead, .dead, .dead, .dead, .dead, .dead, .dead, .dead, .dead, .dead, .dead, .dead, .dead, .dead] [] [.row true (.int .u8 (.nil))] [.i y1, .i y2, .q (.int .u8 (.nil)) y3])) (fun (x2 : Int) (p3 : Int) (x4 : Int) (x5 : Int) (q6 : Seq (Int × Unit)) => wire_number_l0_run (fun y1 y2 y3 => k (.exit 0) (encSt [.dead, .dead, .dead, .dead, .int .i64, .int .u64, .dead, .dead, .dead, .dead, .dead, .dead, .dead, .dead, .dead, .dead, .dead, .dead, .dead, .dead, .dead, .dead, .dead, .dead, .dead, .dead, .dead, .dead, .dead, .dead, .dead, .dead, .dead, .dead, .dead, .dead, .dead, .dead, .dead, .dead, .dead, .dead, .dead, .dead, .dead, .dead, .dead, .dead, .dead, .dead, .dead, .dead, .dead, .dead, .dead, .dead, .dead, .dead, .dead, .dead, .dead, .dead, .dead] [] [.row true (.int .u8 (.nil))] [.i y1, .i y2, .q (.int .u8 (.nil)) y3])) n x2 p3 x4 x5 q6) x2 p3 x4 x5 q6 = wire_number_l0_run (fun y1 y2 y3 => k (.exit 0) (encSt [.dead, .dead, .dead, .dead, .int .i64, .int .u64, .dead, .dead, .dead, .dead, .dead, .dead, .dead, .dead, .dead, .dead, .dead, .dead, .dead, .dead, .dead, .dead, .dead, .dead, .dead, .dead, .dead, .dead, .dead, .dead, .dead, .dead, .dead, .dead, .dead, .dead, .dead, .dead, .dead, .dead, .dead, .dead, .dead, .dead, .dead, .dead, .dead, .dead, .dead, .dead, .dead, .dead, .dead, .dead, .dead, .dead, .dead, .dead, .dead, .dead, .dead, .dead, .dead] [] [.row true (.int .u8 (.nil))] [.i y1, .i y2, .q (.int .u8 (.nil)) y3])) (n + 1) x2 p3 x4 x5 q6 := by kernel_rfl
    exact h1.trans (h2.trans h3)

theorem wire_number_l0_ok {α : Type} : (wire_number_l0_spec : LoopSpec α).ok Go.Proofs.Try.prog (envOf (wire_number_C) wire_number_q wire_number_inl 1000 wire_number_ann false (wire_number_loops) (fun _ => none)) := by
  intro ds k
  have h1 : wire_number_l0_ev 1000 (encSt wire_number_l0_t wire_number_l0_s wire_number_l0_h ds) k = wire_number_l0_ev 1000 (encSt wire_number_l0_t wire_number_l0_s wire_number_l0_h [.i (hdI ds), .i (hdI ds.tail), .i (hdI ds.tail.tail), .i (hdI ds.tail.tail.tail), .q (.int .u8 (.nil)) (hdQ (.int .u8 (.nil)) ds.tail.tail.tail.tail)]) k := by kernel_rfl
  have h2 := wire_number_l0_eq 1000 (hdI ds) (hdI ds.tail) (hdI ds.tail.tail) (hdI ds.tail.tail.tail) (hdQ (.int .u8 (.nil)) ds.tail.tail.tail.tail) k
  exact h1.trans h2

theorem wire_number_ev {α : Type} : EvOk (α := α) Go.Proofs.Try.prog (envOf (wire_number_C) wire_number_q wire_number_inl 1000 wire_number_ann false (wire_number_loops) (fun _ => none)) 6 (wire_number_sp (wire_number)) := by intro ds k; kernel_rfl

theorem wire_number_ok {α : Type} : (wire_number_spec : FunSpec α).ok Go.Proofs.Try.prog :=
  FunSpec.ok_of (sp := wire_number_spec) (C := wire_number_C) (q := wire_number_q) (inl := wire_number_inl) (N := 1000) (ann := wire_number_ann) (fr := false) (D := 6) (l := (wire_number_loops)) (hk := (fun _ => none)) okNil (lokCons (wire_number_l0_ok) lokNil) noHooks (wire_number_ev)

end
end Go.Rv.Try

set_option linter.unusedVariables false
set_option maxRecDepth 100000
set_option maxHeartbeats 4000000
namespace Go.Rv.Try
open Go Go.Rv Go.RowKit
noncomputable section

-- (*drayman/wire.Reader).take

abbrev wire_Reader_take_T (α : Type) : Type := Int → (ByteArray × Bool × Unit) → (ByteArray → (ByteArray × Bool × Unit) → Option α) → Option α

noncomputable def wire_Reader_take {α : Type} (n1 : Int) (x2 : ByteArray × Bool × Unit) (k : ByteArray → (ByteArray × Bool × Unit) → Option α) : Option α :=
  (cond ((decide ((0 : Int) ≤ n1)) && (decide (n1 ≤ (x2.1.size : Int))))
    (cond ((decide ((0 : Int) ≤ n1)) && (decide (n1 ≤ (x2.1.size : Int))))
      (k (x2.1.extract 0 n1.toNat) ((x2.1.extract n1.toNat x2.1.size), x2.2.1, ()))
      none)
    none)

noncomputable def wire_Reader_take_sp {α : Type} (wire_Reader_take : wire_Reader_take_T α) : FunSpec α := ⟨80, [.ref 0 0, .int .i64], [.box [.str, .bool]], fun ds k => wire_Reader_take (hdI ds) (hdS ds.tail, hdB ds.tail.tail, ()) (fun r1 r2 => k (enc dep (.str) [.s r1]).1 (encBs [.box [.str, .bool]] [.s r2.1, .b r2.2.1]).1)⟩

noncomputable def wire_Reader_take_spec {α : Type} : FunSpec α := wire_Reader_take_sp wire_Reader_take

noncomputable def wire_Reader_take_C {α : Type} : List (FunSpec α) := []

noncomputable def wire_Reader_take_q : FuncId → Bool := fun f => false

noncomputable def wire_Reader_take_inl : FuncId → Bool := fun f => false

noncomputable def wire_Reader_take_ann : FuncId → AnnT := fun f p => ⟨[], [], [], [], 0, [], []⟩

noncomputable def wire_Reader_take_loops {α : Type} : List (LoopSpec α) := []

theorem wire_Reader_take_ev {α : Type} : EvOk (α := α) Go.Proofs.Try.prog (envOf (wire_Reader_take_C) wire_Reader_take_q wire_Reader_take_inl 1000 wire_Reader_take_ann false (wire_Reader_take_loops) (fun _ => none)) 6 (wire_Reader_take_sp (wire_Reader_take)) := by intro ds k; kernel_rfl

theorem wire_Reader_take_ok {α : Type} : (wire_Reader_take_spec : FunSpec α).ok Go.Proofs.Try.prog :=
  FunSpec.ok_of (sp := wire_Reader_take_spec) (C := wire_Reader_take_C) (q := wire_Reader_take_q) (inl := wire_Reader_take_inl) (N := 1000) (ann := wire_Reader_take_ann) (fr := false) (D := 6) (l := (wire_Reader_take_loops)) (hk := (fun _ => none)) okNil lokNil noHooks (wire_Reader_take_ev)

end
end Go.Rv.Try

set_option linter.unusedVariables false
set_option maxRecDepth 100000
set_option maxHeartbeats 4000000
namespace Go.Rv.Try
open Go Go.Rv Go.RowKit
noncomputable section

-- (*drayman/wire.Reader).Int

abbrev wire_Reader_Int_T (α : Type) : Type := Int → Int → (ByteArray × Bool × Unit) → (Int → (ByteArray × Bool × Unit) → Option α) → Option α

noncomputable def wire_Reader_Int_g {α : Type} (wire_number : wire_number_T α) (wire_Reader_take : wire_Reader_take_T α) (low1 : Int) (high2 : Int) (x3 : ByteArray × Bool × Unit) (k : Int → (ByteArray × Bool × Unit) → Option α) : Option α :=
  (cond (!(!x3.2.1))
    (cond (!x3.2.1)
      (k 0 x3)
      (wire_number x3.1 fun r4 r5 =>
        (cond (decide (r5 > 0))
          (cond (decide (low1 ≤ r4))
            (cond (!(!x3.2.1))
              (cond (!(decide (r4 ≤ high2)))
                (k 0 ((⟨#[]⟩ : ByteArray), false, ()))
                (cond (!x3.2.1)
                  (k 0 x3)
                  (wire_Reader_take r5 x3 fun r6 r7 =>
                    (k r4 r7))))
              (k 0 ((⟨#[]⟩ : ByteArray), false, ())))
            (cond (!(!x3.2.1))
              (k 0 ((⟨#[]⟩ : ByteArray), false, ()))
              (k 0 ((⟨#[]⟩ : ByteArray), false, ()))))
          (cond (!(!x3.2.1))
            (k 0 ((⟨#[]⟩ : ByteArray), false, ()))
            (k 0 ((⟨#[]⟩ : ByteArray), false, ()))))))
    (k 0 ((⟨#[]⟩ : ByteArray), false, ())))

noncomputable def wire_Reader_Int {α : Type} : wire_Reader_Int_T α := wire_Reader_Int_g wire_number wire_Reader_take

noncomputable def wire_Reader_Int_sp {α : Type} (wire_Reader_Int : wire_Reader_Int_T α) : FunSpec α := ⟨41, [.ref 0 0, .int .i64, .int .i64], [.box [.str, .bool]], fun ds k => wire_Reader_Int (hdI ds) (hdI ds.tail) (hdS ds.tail.tail, hdB ds.tail.tail.tail, ()) (fun r1 r2 => k (enc dep (.int .i64) [.i r1]).1 (encBs [.box [.str, .bool]] [.s r2.1, .b r2.2.1]).1)⟩

noncomputable def wire_Reader_Int_spec {α : Type} : FunSpec α := wire_Reader_Int_sp wire_Reader_Int

noncomputable def wire_Reader_Int_C {α : Type} (wire_number : wire_number_T α) (wire_Reader_take : wire_Reader_take_T α) : List (FunSpec α) := [wire_number_sp wire_number, wire_Reader_take_sp wire_Reader_take]

noncomputable def wire_Reader_Int_q : FuncId → Bool := fun f => Nat.beq f 79 || Nat.beq f 80

noncomputable def wire_Reader_Int_inl : FuncId → Bool := fun f => Nat.beq f 78

noncomputable def wire_Reader_Int_ann : FuncId → AnnT := fun f p => ⟨[], [], [], [], 0, [], []⟩

noncomputable def wire_Reader_Int_loops {α : Type} (wire_number : wire_number_T α) (wire_Reader_take : wire_Reader_take_T α) : List (LoopSpec α) := []

theorem wire_Reader_Int_ev {α : Type} (wire_number : wire_number_T α) (wire_Reader_take : wire_Reader_take_T α) : EvOk (α := α) Go.Proofs.Try.prog (envOf (wire_Reader_Int_C wire_number wire_Reader_take) wire_Reader_Int_q wire_Reader_Int_inl 1000 wire_Reader_Int_ann false (wire_Reader_Int_loops wire_number wire_Reader_take) (fun _ => none)) 6 (wire_Reader_Int_sp (wire_Reader_Int_g wire_number wire_Reader_take)) := by intro ds k; kernel_rfl

theorem wire_Reader_Int_ok {α : Type} : (wire_Reader_Int_spec : FunSpec α).ok Go.Proofs.Try.prog :=
  FunSpec.ok_of (sp := wire_Reader_Int_spec) (C := wire_Reader_Int_C wire_number wire_Reader_take) (q := wire_Reader_Int_q) (inl := wire_Reader_Int_inl) (N := 1000) (ann := wire_Reader_Int_ann) (fr := false) (D := 6) (l := (wire_Reader_Int_loops wire_number wire_Reader_take)) (hk := (fun _ => none)) (okCons wire_number_ok (okCons wire_Reader_take_ok okNil)) lokNil noHooks (wire_Reader_Int_ev wire_number wire_Reader_take)

end
end Go.Rv.Try

set_option linter.unusedVariables false
set_option maxRecDepth 100000
set_option maxHeartbeats 4000000
namespace Go.Rv.Try
open Go Go.Rv Go.RowKit
noncomputable section

-- (*drayman/wire.Reader).Flag

abbrev wire_Reader_Flag_T (α : Type) : Type := (ByteArray × Bool × Unit) → (Bool → (ByteArray × Bool × Unit) → Option α) → Option α

noncomputable def wire_Reader_Flag_g {α : Type} (wire_Reader_take : wire_Reader_take_T α) (x1 : ByteArray × Bool × Unit) (k : Bool → (ByteArray × Bool × Unit) → Option α) : Option α :=
  (cond (!(!x1.2.1))
    (cond (!(!x1.2.1))
      (cond (!(x1.1.toList == (⟨#[]⟩ : ByteArray).toList))
        (cond (decide ((0 : Int) < (x1.1.size : Int)))
          (cond (!(!x1.2.1))
            (cond (!(decide ((byteAt x1.1 0) ≤ 1)))
              (k false ((⟨#[]⟩ : ByteArray), false, ()))
              (cond (!x1.2.1)
                (k false x1)
                (wire_Reader_take 1 x1 fun r2 r3 =>
                  (k (r2.toList == (⟨#[1]⟩ : ByteArray).toList) r3))))
            (k false ((⟨#[]⟩ : ByteArray), false, ())))
          none)
        (cond (!(!x1.2.1))
          (k false ((⟨#[]⟩ : ByteArray), false, ()))
          (k false ((⟨#[]⟩ : ByteArray), false, ()))))
      (k false x1))
    (k false ((⟨#[]⟩ : ByteArray), false, ())))

noncomputable def wire_Reader_Flag {α : Type} : wire_Reader_Flag_T α := wire_Reader_Flag_g wire_Reader_take

noncomputable def wire_Reader_Flag_sp {α : Type} (wire_Reader_Flag : wire_Reader_Flag_T α) : FunSpec α := ⟨43, [.ref 0 0], [.box [.str, .bool]], fun ds k => wire_Reader_Flag (hdS ds, hdB ds.tail, ()) (fun r1 r2 => k (enc dep (.bool) [.b r1]).1 (encBs [.box [.str, .bool]] [.s r2.1, .b r2.2.1]).1)⟩

noncomputable def wire_Reader_Flag_spec {α : Type} : FunSpec α := wire_Reader_Flag_sp wire_Reader_Flag

noncomputable def wire_Reader_Flag_C {α : Type} (wire_Reader_take : wire_Reader_take_T α) : List (FunSpec α) := [wire_Reader_take_sp wire_Reader_take]

noncomputable def wire_Reader_Flag_q : FuncId → Bool := fun f => Nat.beq f 80

noncomputable def wire_Reader_Flag_inl : FuncId → Bool := fun f => Nat.beq f 78

noncomputable def wire_Reader_Flag_ann : FuncId → AnnT := fun f p => ⟨[], [], [], [], 0, [], []⟩

noncomputable def wire_Reader_Flag_loops {α : Type} (wire_Reader_take : wire_Reader_take_T α) : List (LoopSpec α) := []

theorem wire_Reader_Flag_ev {α : Type} (wire_Reader_take : wire_Reader_take_T α) : EvOk (α := α) Go.Proofs.Try.prog (envOf (wire_Reader_Flag_C wire_Reader_take) wire_Reader_Flag_q wire_Reader_Flag_inl 1000 wire_Reader_Flag_ann false (wire_Reader_Flag_loops wire_Reader_take) (fun _ => none)) 6 (wire_Reader_Flag_sp (wire_Reader_Flag_g wire_Reader_take)) := by intro ds k; kernel_rfl

theorem wire_Reader_Flag_ok {α : Type} : (wire_Reader_Flag_spec : FunSpec α).ok Go.Proofs.Try.prog :=
  FunSpec.ok_of (sp := wire_Reader_Flag_spec) (C := wire_Reader_Flag_C wire_Reader_take) (q := wire_Reader_Flag_q) (inl := wire_Reader_Flag_inl) (N := 1000) (ann := wire_Reader_Flag_ann) (fr := false) (D := 6) (l := (wire_Reader_Flag_loops wire_Reader_take)) (hk := (fun _ => none)) (okCons wire_Reader_take_ok okNil) lokNil noHooks (wire_Reader_Flag_ev wire_Reader_take)

end
end Go.Rv.Try

set_option linter.unusedVariables false
set_option maxRecDepth 100000
set_option maxHeartbeats 4000000
namespace Go.Rv.Try
open Go Go.Rv Go.RowKit
noncomputable section

-- (*drayman/wire.Reader).Text

abbrev wire_Reader_Text_T (α : Type) : Type := Int → (ByteArray × Bool × Unit) → (ByteArray → (ByteArray × Bool × Unit) → Option α) → Option α

noncomputable def wire_Reader_Text_g {α : Type} (wire_Reader_Int : wire_Reader_Int_T α) (wire_Reader_take : wire_Reader_take_T α) (most1 : Int) (x2 : ByteArray × Bool × Unit) (k : ByteArray → (ByteArray × Bool × Unit) → Option α) : Option α :=
  (wire_Reader_Int 0 most1 x2 fun r3 r4 =>
    (cond (!(!r4.2.1))
      (cond (!(!r4.2.1))
        (cond (!(!r4.2.1))
          (cond (!(decide (r3 ≤ (r4.1.size : Int))))
            (k (⟨#[]⟩ : ByteArray) ((⟨#[]⟩ : ByteArray), false, ()))
            (cond (!r4.2.1)
              (k (⟨#[]⟩ : ByteArray) r4)
              (wire_Reader_take r3 r4 fun r5 r6 =>
                (k r5 r6))))
          (k (⟨#[]⟩ : ByteArray) ((⟨#[]⟩ : ByteArray), false, ())))
        (k (⟨#[]⟩ : ByteArray) r4))
      (k (⟨#[]⟩ : ByteArray) ((⟨#[]⟩ : ByteArray), false, ()))))

noncomputable def wire_Reader_Text {α : Type} : wire_Reader_Text_T α := wire_Reader_Text_g wire_Reader_Int wire_Reader_take

noncomputable def wire_Reader_Text_sp {α : Type} (wire_Reader_Text : wire_Reader_Text_T α) : FunSpec α := ⟨45, [.ref 0 0, .int .i64], [.box [.str, .bool]], fun ds k => wire_Reader_Text (hdI ds) (hdS ds.tail, hdB ds.tail.tail, ()) (fun r1 r2 => k (enc dep (.str) [.s r1]).1 (encBs [.box [.str, .bool]] [.s r2.1, .b r2.2.1]).1)⟩

noncomputable def wire_Reader_Text_spec {α : Type} : FunSpec α := wire_Reader_Text_sp wire_Reader_Text

noncomputable def wire_Reader_Text_C {α : Type} (wire_Reader_Int : wire_Reader_Int_T α) (wire_Reader_take : wire_Reader_take_T α) : List (FunSpec α) := [wire_Reader_Int_sp wire_Reader_Int, wire_Reader_take_sp wire_Reader_take]

noncomputable def wire_Reader_Text_q : FuncId → Bool := fun f => Nat.beq f 41 || Nat.beq f 80

noncomputable def wire_Reader_Text_inl : FuncId → Bool := fun f => Nat.beq f 78

noncomputable def wire_Reader_Text_ann : FuncId → AnnT := fun f p => ⟨[], [], [], [], 0, [], []⟩

noncomputable def wire_Reader_Text_loops {α : Type} (wire_Reader_Int : wire_Reader_Int_T α) (wire_Reader_take : wire_Reader_take_T α) : List (LoopSpec α) := []

theorem wire_Reader_Text_ev {α : Type} (wire_Reader_Int : wire_Reader_Int_T α) (wire_Reader_take : wire_Reader_take_T α) : EvOk (α := α) Go.Proofs.Try.prog (envOf (wire_Reader_Text_C wire_Reader_Int wire_Reader_take) wire_Reader_Text_q wire_Reader_Text_inl 1000 wire_Reader_Text_ann false (wire_Reader_Text_loops wire_Reader_Int wire_Reader_take) (fun _ => none)) 6 (wire_Reader_Text_sp (wire_Reader_Text_g wire_Reader_Int wire_Reader_take)) := by intro ds k; kernel_rfl

theorem wire_Reader_Text_ok {α : Type} : (wire_Reader_Text_spec : FunSpec α).ok Go.Proofs.Try.prog :=
  FunSpec.ok_of (sp := wire_Reader_Text_spec) (C := wire_Reader_Text_C wire_Reader_Int wire_Reader_take) (q := wire_Reader_Text_q) (inl := wire_Reader_Text_inl) (N := 1000) (ann := wire_Reader_Text_ann) (fr := false) (D := 6) (l := (wire_Reader_Text_loops wire_Reader_Int wire_Reader_take)) (hk := (fun _ => none)) (okCons wire_Reader_Int_ok (okCons wire_Reader_take_ok okNil)) lokNil noHooks (wire_Reader_Text_ev wire_Reader_Int wire_Reader_take)

end
end Go.Rv.Try

set_option linter.unusedVariables false
set_option maxRecDepth 100000
set_option maxHeartbeats 4000000
namespace Go.Rv.Try
open Go Go.Rv Go.RowKit
noncomputable section

-- (*drayman/wire.Reader).Done

abbrev wire_Reader_Done_T (α : Type) : Type := (ByteArray × Bool × Unit) → (Bool → (ByteArray × Bool × Unit) → Option α) → Option α

noncomputable def wire_Reader_Done {α : Type} (x1 : ByteArray × Bool × Unit) (k : Bool → (ByteArray × Bool × Unit) → Option α) : Option α :=
  (cond x1.2.1
    (k (x1.1.toList == (⟨#[]⟩ : ByteArray).toList) x1)
    (k false x1))

noncomputable def wire_Reader_Done_sp {α : Type} (wire_Reader_Done : wire_Reader_Done_T α) : FunSpec α := ⟨51, [.ref 0 0], [.box [.str, .bool]], fun ds k => wire_Reader_Done (hdS ds, hdB ds.tail, ()) (fun r1 r2 => k (enc dep (.bool) [.b r1]).1 (encBs [.box [.str, .bool]] [.s r2.1, .b r2.2.1]).1)⟩

noncomputable def wire_Reader_Done_spec {α : Type} : FunSpec α := wire_Reader_Done_sp wire_Reader_Done

noncomputable def wire_Reader_Done_C {α : Type} : List (FunSpec α) := []

noncomputable def wire_Reader_Done_q : FuncId → Bool := fun f => false

noncomputable def wire_Reader_Done_inl : FuncId → Bool := fun f => false

noncomputable def wire_Reader_Done_ann : FuncId → AnnT := fun f p => ⟨[], [], [], [], 0, [], []⟩

noncomputable def wire_Reader_Done_loops {α : Type} : List (LoopSpec α) := []

theorem wire_Reader_Done_ev {α : Type} : EvOk (α := α) Go.Proofs.Try.prog (envOf (wire_Reader_Done_C) wire_Reader_Done_q wire_Reader_Done_inl 1000 wire_Reader_Done_ann false (wire_Reader_Done_loops) (fun _ => none)) 6 (wire_Reader_Done_sp (wire_Reader_Done)) := by intro ds k; kernel_rfl

theorem wire_Reader_Done_ok {α : Type} : (wire_Reader_Done_spec : FunSpec α).ok Go.Proofs.Try.prog :=
  FunSpec.ok_of (sp := wire_Reader_Done_spec) (C := wire_Reader_Done_C) (q := wire_Reader_Done_q) (inl := wire_Reader_Done_inl) (N := 1000) (ann := wire_Reader_Done_ann) (fr := false) (D := 6) (l := (wire_Reader_Done_loops)) (hk := (fun _ => none)) okNil lokNil noHooks (wire_Reader_Done_ev)

end
end Go.Rv.Try

set_option linter.unusedVariables false
set_option maxRecDepth 100000
set_option maxHeartbeats 4000000
namespace Go.Rv.Try
open Go Go.Rv Go.RowKit
noncomputable section

-- drayman/draymanlaw03.awake

abbrev draymanlaw03_awake_T (α : Type) : Type := (Bool → Option α) → Option α

noncomputable def draymanlaw03_awake_g {α : Type} (wire_Int : wire_Int_T α) (wire_Text : wire_Text_T α) (wire_Reader_Int : wire_Reader_Int_T α) (wire_Reader_Flag : wire_Reader_Flag_T α) (wire_Reader_Text : wire_Reader_Text_T α) (wire_Reader_Done : wire_Reader_Done_T α) (k : Bool → Option α) : Option α :=
  (wire_Int 0 fun r1 =>
    (cond (!(!(r1.toList == (⟨#[0]⟩ : ByteArray).toList)))
      (wire_Int (-1) fun r2 =>
        (cond (!(!(r2.toList == (⟨#[1, 1]⟩ : ByteArray).toList)))
          (wire_Int 128 fun r3 =>
            (cond (!(!(r3.toList == (⟨#[2, 1, 0]⟩ : ByteArray).toList)))
              (wire_Text (⟨#[97, 98]⟩ : ByteArray) fun r4 =>
                (cond (!(!(r4.toList == (⟨#[1, 4, 97, 98]⟩ : ByteArray).toList)))
                  (wire_Reader_Int (-5) 5 ((⟨#[1, 1, 1, 1, 4, 97, 98]⟩ : ByteArray), true, ()) fun r5 r6 =>
                    (wire_Reader_Flag r6 fun r7 r8 =>
                      (wire_Reader_Text 9 r8 fun r9 r10 =>
                        (cond (r5 == (-1))
                          (cond r7
                            (cond (r9.toList == (⟨#[97, 98]⟩ : ByteArray).toList)
                              (wire_Reader_Done r10 fun r11 r12 =>
                                (cond r11
                                  (wire_Reader_Int 0 1 r12 fun r13 r14 =>
                                    (cond (r13 == 0)
                                      (wire_Reader_Done r14 fun r15 r16 =>
                                        (k (!r15)))
                                      (k false)))
                                  (k false)))
                              (k false))
                            (k false))
                          (k false)))))
                  (k false)))
              (k false)))
          (k false)))
      (k false)))

noncomputable def draymanlaw03_awake {α : Type} : draymanlaw03_awake_T α := draymanlaw03_awake_g wire_Int wire_Text wire_Reader_Int wire_Reader_Flag wire_Reader_Text wire_Reader_Done

noncomputable def draymanlaw03_awake_sp {α : Type} (draymanlaw03_awake : draymanlaw03_awake_T α) : FunSpec α := ⟨39, [], [], fun ds k => draymanlaw03_awake  (fun r1 => k (enc dep (.bool) [.b r1]).1 [])⟩

noncomputable def draymanlaw03_awake_spec {α : Type} : FunSpec α := draymanlaw03_awake_sp draymanlaw03_awake

noncomputable def draymanlaw03_awake_C {α : Type} (wire_Int : wire_Int_T α) (wire_Text : wire_Text_T α) (wire_Reader_Int : wire_Reader_Int_T α) (wire_Reader_Flag : wire_Reader_Flag_T α) (wire_Reader_Text : wire_Reader_Text_T α) (wire_Reader_Done : wire_Reader_Done_T α) : List (FunSpec α) := [wire_Int_sp wire_Int, wire_Text_sp wire_Text, wire_Reader_Int_sp wire_Reader_Int, wire_Reader_Flag_sp wire_Reader_Flag, wire_Reader_Text_sp wire_Reader_Text, wire_Reader_Done_sp wire_Reader_Done]

noncomputable def draymanlaw03_awake_q : FuncId → Bool := fun f => Nat.beq f 41 || Nat.beq f 43 || Nat.beq f 45 || Nat.beq f 51 || Nat.beq f 53 || Nat.beq f 57

noncomputable def draymanlaw03_awake_inl : FuncId → Bool := fun f => Nat.beq f 40

noncomputable def draymanlaw03_awake_ann : FuncId → AnnT := fun f p => ⟨[], [], [], [], 0, [], []⟩

noncomputable def draymanlaw03_awake_loops {α : Type} (wire_Int : wire_Int_T α) (wire_Text : wire_Text_T α) (wire_Reader_Int : wire_Reader_Int_T α) (wire_Reader_Flag : wire_Reader_Flag_T α) (wire_Reader_Text : wire_Reader_Text_T α) (wire_Reader_Done : wire_Reader_Done_T α) : List (LoopSpec α) := []

theorem draymanlaw03_awake_ev {α : Type} (wire_Int : wire_Int_T α) (wire_Text : wire_Text_T α) (wire_Reader_Int : wire_Reader_Int_T α) (wire_Reader_Flag : wire_Reader_Flag_T α) (wire_Reader_Text : wire_Reader_Text_T α) (wire_Reader_Done : wire_Reader_Done_T α) : EvOk (α := α) Go.Proofs.Try.prog (envOf (draymanlaw03_awake_C wire_Int wire_Text wire_Reader_Int wire_Reader_Flag wire_Reader_Text wire_Reader_Done) draymanlaw03_awake_q draymanlaw03_awake_inl 1000 draymanlaw03_awake_ann false (draymanlaw03_awake_loops wire_Int wire_Text wire_Reader_Int wire_Reader_Flag wire_Reader_Text wire_Reader_Done) (fun _ => none)) 6 (draymanlaw03_awake_sp (draymanlaw03_awake_g wire_Int wire_Text wire_Reader_Int wire_Reader_Flag wire_Reader_Text wire_Reader_Done)) := by intro ds k; kernel_rfl

theorem draymanlaw03_awake_ok {α : Type} : (draymanlaw03_awake_spec : FunSpec α).ok Go.Proofs.Try.prog :=
  FunSpec.ok_of (sp := draymanlaw03_awake_spec) (C := draymanlaw03_awake_C wire_Int wire_Text wire_Reader_Int wire_Reader_Flag wire_Reader_Text wire_Reader_Done) (q := draymanlaw03_awake_q) (inl := draymanlaw03_awake_inl) (N := 1000) (ann := draymanlaw03_awake_ann) (fr := false) (D := 6) (l := (draymanlaw03_awake_loops wire_Int wire_Text wire_Reader_Int wire_Reader_Flag wire_Reader_Text wire_Reader_Done)) (hk := (fun _ => none)) (okCons wire_Int_ok (okCons wire_Text_ok (okCons wire_Reader_Int_ok (okCons wire_Reader_Flag_ok (okCons wire_Reader_Text_ok (okCons wire_Reader_Done_ok okNil)))))) lokNil noHooks (draymanlaw03_awake_ev wire_Int wire_Text wire_Reader_Int wire_Reader_Flag wire_Reader_Text wire_Reader_Done)

end
end Go.Rv.Try

set_option linter.unusedVariables false
set_option maxRecDepth 100000
set_option maxHeartbeats 4000000
namespace Go.Rv.Try
open Go Go.Rv Go.RowKit
noncomputable section

-- drayman/wire.Ints

abbrev wire_Ints_T (α : Type) : Type := (Seq (Int × Unit)) → (ByteArray → Option α) → Option α

noncomputable def wire_Ints_l0_step {α : Type} (wire_Int : wire_Int_T α) (k0 : (ByteArray) → Option α) (rec : (Seq (Int × Unit)) → (Int) → (Int) → (ByteArray) → Option α) (x2 : Seq (Int × Unit)) (x3 : Int) (x4 : Int) (b5 : ByteArray) : Option α :=
  (cond (decide (x4 < x3))
    (cond ((decide ((0 : Int) ≤ x4)) && (decide (x4 < (x2.n : Int))))
      (wire_Int ((x2.g x4.toNat).1) fun r6 =>
        (cond (decide ((b5.size + r6.size) * 1 ≤ 140737488355328))
          (rec x2 x3 (IntKind.i64.wrap (x4 + 1)) (b5 ++ r6))
          none))
      none)
    (k0 b5))

noncomputable def wire_Ints_l0_run {α : Type} (wire_Int : wire_Int_T α) (k0 : (ByteArray) → Option α) : Nat → (Seq (Int × Unit)) → (Int) → (Int) → (ByteArray) → Option α
  | 0, _, _, _, _ => none
  | n + 1, x2, x3, x4, b5 => wire_Ints_l0_step wire_Int k0 (fun x2 x3 x4 b5 => wire_Ints_l0_run wire_Int k0 n x2 x3 x4 b5) x2 x3 x4 b5

noncomputable def wire_Ints_g {α : Type} (wire_Int : wire_Int_T α) (l1 : Seq (Int × Unit)) (k : ByteArray → Option α) : Option α :=
  (wire_Ints_l0_run wire_Int
    (fun b7 =>
      (k b7))
    1000 l1 (l1.n : Int) 0 (⟨#[]⟩ : ByteArray))

noncomputable def wire_Ints {α : Type} : wire_Ints_T α := wire_Ints_g wire_Int

noncomputable def wire_Ints_sp {α : Type} (wire_Ints : wire_Ints_T α) : FunSpec α := ⟨59, [.sl (.int .i64 (.nil))], [], fun ds k => wire_Ints (hdQ (.int .i64 (.nil)) ds) (fun r1 => k (enc dep (.str) [.s r1]).1 [])⟩

noncomputable def wire_Ints_spec {α : Type} : FunSpec α := wire_Ints_sp wire_Ints

noncomputable def wire_Ints_C {α : Type} (wire_Int : wire_Int_T α) : List (FunSpec α) := [wire_Int_sp wire_Int]

noncomputable def wire_Ints_q : FuncId → Bool := fun f => Nat.beq f 53

noncomputable def wire_Ints_inl : FuncId → Bool := fun f => Nat.beq f 83

noncomputable def wire_Ints_ann : FuncId → AnnT := fun f p => if f = 59 then (if p = [true, false, true, true] then ⟨[3, 6, 7, 8], [1], [3], [2], 0, [], []⟩ else ⟨[], [], [], [], 0, [], []⟩) else ⟨[], [], [], [], 0, [], []⟩

noncomputable def wire_Ints_l0_t : List Sh := [.dead, .dead, .dead, .ref 0 0, .dead, .dead, .sl (.int .i64 (.nil)), .int .i64, .int .i64, .dead, .dead, .dead, .dead, .dead, .dead, .dead, .dead]
noncomputable def wire_Ints_l0_s : List (List Sh) := []
noncomputable def wire_Ints_l0_h : List BSh := [.sb 93 (.own 1), .bs 5]

noncomputable def wire_Ints_l0_spec {α : Type} (wire_Int : wire_Int_T α) : LoopSpec α := ⟨6, 59, [true, false, true, true], wire_Ints_l0_t, wire_Ints_l0_s, wire_Ints_l0_h, fun ds k => wire_Ints_l0_run wire_Int (fun y1 => k (.exit 0) (encSt [.dead, .dead, .dead, .ref 0 0, .dead, .dead, .dead, .dead, .dead, .dead, .dead, .dead, .dead, .dead, .dead, .dead, .dead] [] [.sb 93 (.own 1), .bs 5] [.s y1])) 1000 (hdQ (.int .i64 (.nil)) ds) (hdI ds.tail) (hdI ds.tail.tail) (hdS ds.tail.tail.tail)⟩

noncomputable def wire_Ints_loops {α : Type} (wire_Int : wire_Int_T α) : List (LoopSpec α) := [wire_Ints_l0_spec wire_Int]

noncomputable def wire_Ints_l0_ev {α : Type} (wire_Int : wire_Int_T α) (n : Nat) (st : St) (k : X → St → Option α) : Option α := loopN (evCode Go.Proofs.Try.prog (callD Go.Proofs.Try.prog (envOf (wire_Ints_C wire_Int) wire_Ints_q wire_Ints_inl 1000 wire_Ints_ann false (wire_Ints_loops wire_Int) hooks) 6) (((envOf (wire_Ints_C wire_Int) wire_Ints_q wire_Ints_inl 1000 wire_Ints_ann false (wire_Ints_loops wire_Int) hooks) : Env α).L 6 59) 1000 (wire_Ints_ann 59) (false :: [true, false, true, true]) (loopC Go.Proofs.Try.prog 59 [true, false, true, true])) ((wire_Ints_ann 59 [true, false, true, true]).head 2) ((wire_Ints_ann 59 [true, false, true, true]).leave 2) n st k

theorem wire_Ints_l0_eq {α : Type} (wire_Int : wire_Int_T α) : ∀ (n : Nat) (x2 : Seq (Int × Unit)) (x3 : Int) (x4 : Int) (b5 : ByteArray) (k : X → St → Option α), wire_Ints_l0_ev wire_Int n (encSt wire_Ints_l0_t wire_Ints_l0_s wire_Ints_l0_h [.q (.int .i64 (.nil)) x2, .i x3, .i x4, .s b5]) k = wire_Ints_l0_run wire_Int (fun y1 => k (.exit 0) (encSt [.dead, .dead, .dead, .ref 0 0, .dead, .dead, .dead, .dead, .dead, .dead, .dead, .dead, .dead, .dead, .dead, .dead, .dead] [] [.sb 93 (.own 1), .bs 5] [.s y1])) n x2 x3 x4 b5 := by
  intro n
  induction n with
  | zero => intros; kernel_rfl
  | succ n ih =>
    intro x2 x3 x4 b5 k
    have e : (fun (x2 : Seq (Int × Unit)) (x3 : Int) (x4 : Int) (b5 : ByteArray) => wire_Ints_l0_ev wire_Int n (encSt wire_Ints_l0_t wire_Ints_l0_s wire_Ints_l0_h [.q (.int .i64 (.nil)) x2, .i x3, .i x4, .s b5]) k) = (fun (x2 : Seq (Int × Unit)) (x3 : Int) (x4 : Int) (b5 : ByteArray) => wire_Ints_l0_run wire_Int (fun y1 => k (.exit 0) (encSt [.dead, .dead, .dead, .ref 0 0, .dead, .dead, .dead, .dead, .dead, .dead, .dead, .dead, .dead, .dead, .dead, .dead, .dead] [] [.sb 93 (.own 1), .bs 5] [.s y1])) n x2 x3 x4 b5) := by
      funext x2 x3 x4 b5
      exact ih x2 x3 x4 b5 k
    have h1 : wire_Ints_l0_ev wire_Int (n + 1) (encSt wire_Ints_l0_t wire_Ints_l0_s wire_Ints_l0_h [.q (.int .i64 (.nil)) x2, .i x3, .i x4, .s b5]) k = wire_Ints_l0_step wire_Int (fun y1 => k (.exit 0) (encSt [.dead, .dead, .dead, .ref 0 0, .dead, .dead, .dead, .dead, .dead, .dead, .dead, .dead, .dead, .dead, .dead, .dead, .dead] [] [.sb 93 (.own 1), .bs 5] [.s y1])) (fun (x2 : Seq (Int × Unit)) (x3 : Int) (x4 : Int) (b5 : ByteArray) => wire_Ints_l0_ev wire_Int n (encSt wire_Ints_l0_t wire_Ints_l0_s wire_Ints_l0_h [.q (.int .i64 (.nil)) x2, .i x3, .i x4, .s b5]) k) x2 x3 x4 b5 := by kernel_rfl
    have h2 := congrArg (fun r => wire_Ints_l0_step wire_Int (fun y1 => k (.exit 0) (encSt [.dead, .dead, .dead, .ref 0 0, .dead, .dead, .dead, .dead, .dead, .dead, .dead, .dead, .dead, .dead, .dead, .dead, .dead] [] [.sb 93 (.own 1), .bs 5] [.s y1])) r x2 x3 x4 b5) e
    have h3 : wire_Ints_l0_step wire_Int (fun y1 => k (.exit 0) (encSt [.dead, .dead, .dead, .ref 0 0, .dead, .dead, .dead, .dead, .dead, .dead, .dead, .dead, .dead, .dead, .dead, .dead, .dead] [] [.sb 93 (.own 1), .bs 5] [.s y1])) (fun (x2 : Seq (Int × Unit)) (x3 : Int) (x4 : Int) (b5 : ByteArray) => wire_Ints_l0_run wire_Int (fun y1 => k (.exit 0) (encSt [.dead, .dead, .dead, .ref 0 0, .dead, .dead, .dead, .dead, .dead, .dead, .dead, .dead, .dead, .dead, .dead, .dead, .dead] [] [.sb 93 (.own 1), .bs 5] [.s y1])) n x2 x3 x4 b5) x2 x3 x4 b5 = wire_Ints_l0_run wire_Int (fun y1 => k (.exit 0) (encSt [.dead, .dead, .dead, .ref 0 0, .dead, .dead, .dead, .dead, .dead, .dead, .dead, .dead, .dead, .dead, .dead, .dead, .dead] [] [.sb 93 (.own 1), .bs 5] [.s y1])) (n + 1) x2 x3 x4 b5 := by kernel_rfl
    exact h1.trans (h2.trans h3)

theorem wire_Ints_l0_ok {α : Type} (wire_Int : wire_Int_T α) : (wire_Ints_l0_spec wire_Int : LoopSpec α).ok Go.Proofs.Try.prog (envOf (wire_Ints_C wire_Int) wire_Ints_q wire_Ints_inl 1000 wire_Ints_ann false (wire_Ints_loops wire_Int) hooks) := by
  intro ds k
  have h1 : wire_Ints_l0_ev wire_Int 1000 (encSt wire_Ints_l0_t wire_Ints_l0_s wire_Ints_l0_h ds) k = wire_Ints_l0_ev wire_Int 1000 (encSt wire_Ints_l0_t wire_Ints_l0_s wire_Ints_l0_h [.q (.int .i64 (.nil)) (hdQ (.int .i64 (.nil)) ds), .i (hdI ds.tail), .i (hdI ds.tail.tail), .s (hdS ds.tail.tail.tail)]) k := by kernel_rfl
  have h2 := wire_Ints_l0_eq wire_Int 1000 (hdQ (.int .i64 (.nil)) ds) (hdI ds.tail) (hdI ds.tail.tail) (hdS ds.tail.tail.tail) k
  exact h1.trans h2

theorem wire_Ints_ev {α : Type} (wire_Int : wire_Int_T α) : EvOk (α := α) Go.Proofs.Try.prog (envOf (wire_Ints_C wire_Int) wire_Ints_q wire_Ints_inl 1000 wire_Ints_ann false (wire_Ints_loops wire_Int) hooks) 6 (wire_Ints_sp (wire_Ints_g wire_Int)) := by intro ds k; kernel_rfl

theorem wire_Ints_ok {α : Type} : (wire_Ints_spec : FunSpec α).ok Go.Proofs.Try.prog :=
  FunSpec.ok_of (sp := wire_Ints_spec) (C := wire_Ints_C wire_Int) (q := wire_Ints_q) (inl := wire_Ints_inl) (N := 1000) (ann := wire_Ints_ann) (fr := false) (D := 6) (l := (wire_Ints_loops wire_Int)) (hk := hooks) (okCons wire_Int_ok okNil) (lokCons (wire_Ints_l0_ok wire_Int) lokNil) hooks_ok (wire_Ints_ev wire_Int)

end
end Go.Rv.Try

set_option linter.unusedVariables false
set_option maxRecDepth 100000
set_option maxHeartbeats 4000000
namespace Go.Rv.Try
open Go Go.Rv Go.RowKit
noncomputable section

-- drayman/wire.Flag

abbrev wire_Flag_T (α : Type) : Type := Bool → (ByteArray → Option α) → Option α

noncomputable def wire_Flag {α : Type} (b1 : Bool) (k : ByteArray → Option α) : Option α :=
  (cond b1
    (k (⟨#[1]⟩ : ByteArray))
    (k (⟨#[0]⟩ : ByteArray)))

noncomputable def wire_Flag_sp {α : Type} (wire_Flag : wire_Flag_T α) : FunSpec α := ⟨55, [.bool], [], fun ds k => wire_Flag (hdB ds) (fun r1 => k (enc dep (.str) [.s r1]).1 [])⟩

noncomputable def wire_Flag_spec {α : Type} : FunSpec α := wire_Flag_sp wire_Flag

noncomputable def wire_Flag_C {α : Type} : List (FunSpec α) := []

noncomputable def wire_Flag_q : FuncId → Bool := fun f => false

noncomputable def wire_Flag_inl : FuncId → Bool := fun f => false

noncomputable def wire_Flag_ann : FuncId → AnnT := fun f p => ⟨[], [], [], [], 0, [], []⟩

noncomputable def wire_Flag_loops {α : Type} : List (LoopSpec α) := []

theorem wire_Flag_ev {α : Type} : EvOk (α := α) Go.Proofs.Try.prog (envOf (wire_Flag_C) wire_Flag_q wire_Flag_inl 1000 wire_Flag_ann false (wire_Flag_loops) (fun _ => none)) 6 (wire_Flag_sp (wire_Flag)) := by intro ds k; kernel_rfl

theorem wire_Flag_ok {α : Type} : (wire_Flag_spec : FunSpec α).ok Go.Proofs.Try.prog :=
  FunSpec.ok_of (sp := wire_Flag_spec) (C := wire_Flag_C) (q := wire_Flag_q) (inl := wire_Flag_inl) (N := 1000) (ann := wire_Flag_ann) (fr := false) (D := 6) (l := (wire_Flag_loops)) (hk := (fun _ => none)) okNil lokNil noHooks (wire_Flag_ev)

end
end Go.Rv.Try

set_option linter.unusedVariables false
set_option maxRecDepth 100000
set_option maxHeartbeats 4000000
namespace Go.Rv.Try
open Go Go.Rv Go.RowKit
noncomputable section

-- (*drayman/wire.Reader).Left

abbrev wire_Reader_Left_T (α : Type) : Type := (ByteArray × Bool × Unit) → (Int → (ByteArray × Bool × Unit) → Option α) → Option α

noncomputable def wire_Reader_Left {α : Type} (x1 : ByteArray × Bool × Unit) (k : Int → (ByteArray × Bool × Unit) → Option α) : Option α :=
  (k (x1.1.size : Int) x1)

noncomputable def wire_Reader_Left_sp {α : Type} (wire_Reader_Left : wire_Reader_Left_T α) : FunSpec α := ⟨49, [.ref 0 0], [.box [.str, .bool]], fun ds k => wire_Reader_Left (hdS ds, hdB ds.tail, ()) (fun r1 r2 => k (enc dep (.int .i64) [.i r1]).1 (encBs [.box [.str, .bool]] [.s r2.1, .b r2.2.1]).1)⟩

noncomputable def wire_Reader_Left_spec {α : Type} : FunSpec α := wire_Reader_Left_sp wire_Reader_Left

noncomputable def wire_Reader_Left_C {α : Type} : List (FunSpec α) := []

noncomputable def wire_Reader_Left_q : FuncId → Bool := fun f => false

noncomputable def wire_Reader_Left_inl : FuncId → Bool := fun f => false

noncomputable def wire_Reader_Left_ann : FuncId → AnnT := fun f p => ⟨[], [], [], [], 0, [], []⟩

noncomputable def wire_Reader_Left_loops {α : Type} : List (LoopSpec α) := []

theorem wire_Reader_Left_ev {α : Type} : EvOk (α := α) Go.Proofs.Try.prog (envOf (wire_Reader_Left_C) wire_Reader_Left_q wire_Reader_Left_inl 1000 wire_Reader_Left_ann false (wire_Reader_Left_loops) (fun _ => none)) 6 (wire_Reader_Left_sp (wire_Reader_Left)) := by intro ds k; kernel_rfl

theorem wire_Reader_Left_ok {α : Type} : (wire_Reader_Left_spec : FunSpec α).ok Go.Proofs.Try.prog :=
  FunSpec.ok_of (sp := wire_Reader_Left_spec) (C := wire_Reader_Left_C) (q := wire_Reader_Left_q) (inl := wire_Reader_Left_inl) (N := 1000) (ann := wire_Reader_Left_ann) (fr := false) (D := 6) (l := (wire_Reader_Left_loops)) (hk := (fun _ => none)) okNil lokNil noHooks (wire_Reader_Left_ev)

end
end Go.Rv.Try

set_option linter.unusedVariables false
set_option maxRecDepth 100000
set_option maxHeartbeats 4000000
namespace Go.Rv.Try
open Go Go.Rv Go.RowKit
noncomputable section

-- drayman/draymanlaw03.WireBack

abbrev draymanlaw03_WireBack_T (α : Type) : Type := (Seq (Int × Unit)) → ByteArray → Bool → ByteArray → (Bool → Option α) → Option α

noncomputable def draymanlaw03_WireBack_l0_step {α : Type} (draymanlaw03_awake : draymanlaw03_awake_T α) (wire_Ints : wire_Ints_T α) (wire_Flag : wire_Flag_T α) (wire_Text : wire_Text_T α) (wire_Reader_Int : wire_Reader_Int_T α) (wire_Reader_Flag : wire_Reader_Flag_T α) (wire_Reader_Text : wire_Reader_Text_T α) (wire_Reader_Done : wire_Reader_Done_T α) (wire_Reader_Left : wire_Reader_Left_T α) (wire_Int : wire_Int_T α) (kr : (Bool) → (ByteArray × Bool × Unit) → Option α) (k0 : (ByteArray) → (Bool) → (ByteArray) → (ByteArray × Bool × Unit) → Option α) (rec : (Seq (Int × Unit)) → (ByteArray) → (Bool) → (ByteArray) → (Int) → (ByteArray × Bool × Unit) → Option α) (x9 : Seq (Int × Unit)) (x10 : ByteArray) (x11 : Bool) (x12 : ByteArray) (x13 : Int) (x14 : ByteArray × Bool × Unit) : Option α :=
  (cond (decide (x13 < (x9.n : Int)))
    (cond (((decide ((0 : Int) ≤ x13)) && (decide (x13 < (x9.n : Int)))) && ((decide ((0 : Int) ≤ x13)) && (decide (x13 < (x9.n : Int)))))
      (wire_Reader_Int (-9223372036854775808) 9223372036854775807 x14 fun r15 r16 =>
        (cond (r15 != (x9.g x13.toNat).1)
          (kr false r16)
          (rec x9 x10 x11 x12 (IntKind.i64.wrap (x13 + 1)) r16)))
      none)
    (k0 x10 x11 x12 x14))

noncomputable def draymanlaw03_WireBack_l0_run {α : Type} (draymanlaw03_awake : draymanlaw03_awake_T α) (wire_Ints : wire_Ints_T α) (wire_Flag : wire_Flag_T α) (wire_Text : wire_Text_T α) (wire_Reader_Int : wire_Reader_Int_T α) (wire_Reader_Flag : wire_Reader_Flag_T α) (wire_Reader_Text : wire_Reader_Text_T α) (wire_Reader_Done : wire_Reader_Done_T α) (wire_Reader_Left : wire_Reader_Left_T α) (wire_Int : wire_Int_T α) (kr : (Bool) → (ByteArray × Bool × Unit) → Option α) (k0 : (ByteArray) → (Bool) → (ByteArray) → (ByteArray × Bool × Unit) → Option α) : Nat → (Seq (Int × Unit)) → (ByteArray) → (Bool) → (ByteArray) → (Int) → (ByteArray × Bool × Unit) → Option α
  | 0, _, _, _, _, _, _ => none
  | n + 1, x9, x10, x11, x12, x13, x14 => draymanlaw03_WireBack_l0_step draymanlaw03_awake wire_Ints wire_Flag wire_Text wire_Reader_Int wire_Reader_Flag wire_Reader_Text wire_Reader_Done wire_Reader_Left wire_Int kr k0 (fun x9 x10 x11 x12 x13 x14 => draymanlaw03_WireBack_l0_run draymanlaw03_awake wire_Ints wire_Flag wire_Text wire_Reader_Int wire_Reader_Flag wire_Reader_Text wire_Reader_Done wire_Reader_Left wire_Int kr k0 n x9 x10 x11 x12 x13 x14) x9 x10 x11 x12 x13 x14

noncomputable def draymanlaw03_WireBack_g {α : Type} (draymanlaw03_awake : draymanlaw03_awake_T α) (wire_Ints : wire_Ints_T α) (wire_Flag : wire_Flag_T α) (wire_Text : wire_Text_T α) (wire_Reader_Int : wire_Reader_Int_T α) (wire_Reader_Flag : wire_Reader_Flag_T α) (wire_Reader_Text : wire_Reader_Text_T α) (wire_Reader_Done : wire_Reader_Done_T α) (wire_Reader_Left : wire_Reader_Left_T α) (wire_Int : wire_Int_T α) (x1 : Seq (Int × Unit)) (x2 : ByteArray) (x3 : Bool) (x4 : ByteArray) (k : Bool → Option α) : Option α :=
  (cond (!(decide ((x1.n : Int) > 12)))
    (cond (!(decide ((x2.size : Int) > 200)))
      (cond (decide ((x4.size : Int) > 40))
        (draymanlaw03_awake fun r5 =>
          (k r5))
        (wire_Ints x1 fun r6 =>
          (wire_Flag x3 fun r7 =>
            (cond (decide ((((r6).size + (r7).size : Nat) : Int) ≤ IntKind.i64.max))
              (wire_Text x2 fun r8 =>
                (cond (decide (((((r6 ++ r7)).size + (r8).size : Nat) : Int) ≤ IntKind.i64.max))
                  (draymanlaw03_WireBack_l0_run draymanlaw03_awake wire_Ints wire_Flag wire_Text wire_Reader_Int wire_Reader_Flag wire_Reader_Text wire_Reader_Done wire_Reader_Left wire_Int
                    (fun x17 x18 =>
                      (k x17))
                    (fun x19 x20 x21 x22 =>
                      (wire_Reader_Flag x22 fun r23 r24 =>
                        (cond (!(!(r23 == x20)))
                          (wire_Reader_Text 200 r24 fun r25 r26 =>
                            (cond (!(!(r25.toList == x19.toList)))
                              (wire_Reader_Done r26 fun r27 r28 =>
                                (cond (!r27)
                                  (k false)
                                  (wire_Reader_Int (-9223372036854775808) 9223372036854775807 (x21, true, ()) fun r29 r30 =>
                                    (wire_Reader_Left r30 fun r31 r32 =>
                                      (cond ((decide ((0 : Int) ≤ (IntKind.i64.wrap ((x21.size : Int) - r31)))) && (decide ((IntKind.i64.wrap ((x21.size : Int) - r31)) ≤ (x21.size : Int))))
                                        (wire_Reader_Int (-9223372036854775808) 9223372036854775807 ((x21.extract 0 (IntKind.i64.wrap ((x21.size : Int) - r31)).toNat), true, ()) fun r33 r34 =>
                                          (wire_Reader_Done r34 fun r35 r36 =>
                                            (cond (!(!r35))
                                              (cond (((decide ((0 : Int) ≤ (IntKind.i64.wrap ((x21.size : Int) - r31)))) && (decide ((IntKind.i64.wrap ((x21.size : Int) - r31)) ≤ (x21.size : Int)))) && ((decide ((0 : Int) ≤ (IntKind.i64.wrap ((x21.size : Int) - r31)))) && (decide ((IntKind.i64.wrap ((x21.size : Int) - r31)) ≤ (x21.size : Int)))))
                                                (wire_Int r29 fun r37 =>
                                                  (cond (r37.toList == (x21.extract 0 (IntKind.i64.wrap ((x21.size : Int) - r31)).toNat).toList)
                                                    (draymanlaw03_awake fun r38 =>
                                                      (k r38))
                                                    (k false)))
                                                none)
                                              (draymanlaw03_awake fun r39 =>
                                                (k r39)))))
                                        none)))))
                              (k false)))
                          (k false))))
                    1000 x1 x2 x3 x4 0 (((r6 ++ r7) ++ r8), true, ()))
                  none))
              none))))
      (draymanlaw03_awake fun r40 =>
        (k r40)))
    (draymanlaw03_awake fun r41 =>
      (k r41)))

noncomputable def draymanlaw03_WireBack {α : Type} : draymanlaw03_WireBack_T α := draymanlaw03_WireBack_g draymanlaw03_awake wire_Ints wire_Flag wire_Text wire_Reader_Int wire_Reader_Flag wire_Reader_Text wire_Reader_Done wire_Reader_Left wire_Int

noncomputable def draymanlaw03_WireBack_sp {α : Type} (draymanlaw03_WireBack : draymanlaw03_WireBack_T α) : FunSpec α := ⟨11, [.sl (.int .i64 (.nil)), .str, .bool, .str], [], fun ds k => draymanlaw03_WireBack (hdQ (.int .i64 (.nil)) ds) (hdS ds.tail) (hdB ds.tail.tail) (hdS ds.tail.tail.tail) (fun r1 => k (enc dep (.bool) [.b r1]).1 [])⟩

noncomputable def draymanlaw03_WireBack_spec {α : Type} : FunSpec α := draymanlaw03_WireBack_sp draymanlaw03_WireBack

noncomputable def draymanlaw03_WireBack_C {α : Type} (draymanlaw03_awake : draymanlaw03_awake_T α) (wire_Ints : wire_Ints_T α) (wire_Flag : wire_Flag_T α) (wire_Text : wire_Text_T α) (wire_Reader_Int : wire_Reader_Int_T α) (wire_Reader_Flag : wire_Reader_Flag_T α) (wire_Reader_Text : wire_Reader_Text_T α) (wire_Reader_Done : wire_Reader_Done_T α) (wire_Reader_Left : wire_Reader_Left_T α) (wire_Int : wire_Int_T α) : List (FunSpec α) := [draymanlaw03_awake_sp draymanlaw03_awake, wire_Ints_sp wire_Ints, wire_Flag_sp wire_Flag, wire_Text_sp wire_Text, wire_Reader_Int_sp wire_Reader_Int, wire_Reader_Flag_sp wire_Reader_Flag, wire_Reader_Text_sp wire_Reader_Text, wire_Reader_Done_sp wire_Reader_Done, wire_Reader_Left_sp wire_Reader_Left, wire_Int_sp wire_Int]

noncomputable def draymanlaw03_WireBack_q : FuncId → Bool := fun f => Nat.beq f 39 || Nat.beq f 41 || Nat.beq f 43 || Nat.beq f 45 || Nat.beq f 49 || Nat.beq f 51 || Nat.beq f 53 || Nat.beq f 55 || Nat.beq f 57 || Nat.beq f 59

noncomputable def draymanlaw03_WireBack_inl : FuncId → Bool := fun f => Nat.beq f 40

noncomputable def draymanlaw03_WireBack_ann : FuncId → AnnT := fun f p => if f = 11 then (if p = [true, false, true, true, true, true] then ⟨[0, 1, 2, 3, 9, 10], [], [1, 2, 3, 9], [8], 0, [], []⟩ else ⟨[], [], [], [], 0, [], []⟩) else ⟨[], [], [], [], 0, [], []⟩

noncomputable def draymanlaw03_WireBack_l0_t : List Sh := [.sl (.int .i64 (.nil)), .str, .bool, .str, .dead, .dead, .dead, .dead, .dead, .ref 0 0, .int .i64, .dead, .dead, .dead, .dead, .dead, .dead, .dead, .dead, .dead, .dead, .dead, .dead, .dead, .dead, .dead, .dead, .dead, .dead, .dead, .dead, .dead, .dead, .dead, .dead, .dead, .dead, .dead, .dead, .dead, .dead, .dead, .dead, .dead, .dead, .dead, .dead, .dead, .dead, .dead, .dead, .dead, .dead, .dead, .dead, .dead, .dead, .dead, .dead, .dead, .dead, .dead, .dead, .dead, .dead, .dead, .dead, .dead, .dead, .dead, .dead, .dead, .dead, .dead, .dead, .dead, .dead, .dead, .dead, .dead, .dead, .dead, .dead, .dead, .dead, .dead, .dead, .dead, .dead, .dead, .dead, .dead, .dead, .dead, .dead, .dead, .dead, .dead, .dead, .dead, .dead]
noncomputable def draymanlaw03_WireBack_l0_s : List (List Sh) := []
noncomputable def draymanlaw03_WireBack_l0_h : List BSh := [.box [.str, .bool]]

noncomputable def draymanlaw03_WireBack_l0_spec {α : Type} (draymanlaw03_awake : draymanlaw03_awake_T α) (wire_Ints : wire_Ints_T α) (wire_Flag : wire_Flag_T α) (wire_Text : wire_Text_T α) (wire_Reader_Int : wire_Reader_Int_T α) (wire_Reader_Flag : wire_Reader_Flag_T α) (wire_Reader_Text : wire_Reader_Text_T α) (wire_Reader_Done : wire_Reader_Done_T α) (wire_Reader_Left : wire_Reader_Left_T α) (wire_Int : wire_Int_T α) : LoopSpec α := ⟨6, 11, [true, false, true, true, true, true], draymanlaw03_WireBack_l0_t, draymanlaw03_WireBack_l0_s, draymanlaw03_WireBack_l0_h, fun ds k => draymanlaw03_WireBack_l0_run draymanlaw03_awake wire_Ints wire_Flag wire_Text wire_Reader_Int wire_Reader_Flag wire_Reader_Text wire_Reader_Done wire_Reader_Left wire_Int (fun y1 y2 => k .ret (encSt [.dead, .dead, .dead, .dead, .dead, .dead, .dead, .dead, .bool, .dead, .dead, .dead, .dead, .dead, .dead, .dead, .dead, .dead, .dead, .dead, .dead, .dead, .dead, .dead, .dead, .dead, .dead, .dead, .dead, .dead, .dead, .dead, .dead, .dead, .dead, .dead, .dead, .dead, .dead, .dead, .dead, .dead, .dead, .dead, .dead, .dead, .dead, .dead, .dead, .dead, .dead, .dead, .dead, .dead, .dead, .dead, .dead, .dead, .dead, .dead, .dead, .dead, .dead, .dead, .dead, .dead, .dead, .dead, .dead, .dead, .dead, .dead, .dead, .dead, .dead, .dead, .dead, .dead, .dead, .dead, .dead, .dead, .dead, .dead, .dead, .dead, .dead, .dead, .dead, .dead, .dead, .dead, .dead, .dead, .dead, .dead, .dead, .dead, .dead, .dead, .dead] [] [.box [.str, .bool]] [.b y1, .s y2.1, .b y2.2.1])) (fun y1 y2 y3 y4 => k (.exit 0) (encSt [.dead, .str, .bool, .str, .dead, .dead, .dead, .dead, .dead, .ref 0 0, .dead, .dead, .dead, .dead, .dead, .dead, .dead, .dead, .dead, .dead, .dead, .dead, .dead, .dead, .dead, .dead, .dead, .dead, .dead, .dead, .dead, .dead, .dead, .dead, .dead, .dead, .dead, .dead, .dead, .dead, .dead, .dead, .dead, .dead, .dead, .dead, .dead, .dead, .dead, .dead, .dead, .dead, .dead, .dead, .dead, .dead, .dead, .dead, .dead, .dead, .dead, .dead, .dead, .dead, .dead, .dead, .dead, .dead, .dead, .dead, .dead, .dead, .dead, .dead, .dead, .dead, .dead, .dead, .dead, .dead, .dead, .dead, .dead, .dead, .dead, .dead, .dead, .dead, .dead, .dead, .dead, .dead, .dead, .dead, .dead, .dead, .dead, .dead, .dead, .dead, .dead] [] [.box [.str, .bool]] [.s y1, .b y2, .s y3, .s y4.1, .b y4.2.1])) 1000 (hdQ (.int .i64 (.nil)) ds) (hdS ds.tail) (hdB ds.tail.tail) (hdS ds.tail.tail.tail) (hdI ds.tail.tail.tail.tail) (hdS ds.tail.tail.tail.tail.tail, hdB ds.tail.tail.tail.tail.tail.tail, ())⟩

noncomputable def draymanlaw03_WireBack_loops {α : Type} (draymanlaw03_awake : draymanlaw03_awake_T α) (wire_Ints : wire_Ints_T α) (wire_Flag : wire_Flag_T α) (wire_Text : wire_Text_T α) (wire_Reader_Int : wire_Reader_Int_T α) (wire_Reader_Flag : wire_Reader_Flag_T α) (wire_Reader_Text : wire_Reader_Text_T α) (wire_Reader_Done : wire_Reader_Done_T α) (wire_Reader_Left : wire_Reader_Left_T α) (wire_Int : wire_Int_T α) : List (LoopSpec α) := [draymanlaw03_WireBack_l0_spec draymanlaw03_awake wire_Ints wire_Flag wire_Text wire_Reader_Int wire_Reader_Flag wire_Reader_Text wire_Reader_Done wire_Reader_Left wire_Int]

noncomputable def draymanlaw03_WireBack_l0_ev {α : Type} (draymanlaw03_awake : draymanlaw03_awake_T α) (wire_Ints : wire_Ints_T α) (wire_Flag : wire_Flag_T α) (wire_Text : wire_Text_T α) (wire_Reader_Int : wire_Reader_Int_T α) (wire_Reader_Flag : wire_Reader_Flag_T α) (wire_Reader_Text : wire_Reader_Text_T α) (wire_Reader_Done : wire_Reader_Done_T α) (wire_Reader_Left : wire_Reader_Left_T α) (wire_Int : wire_Int_T α) (n : Nat) (st : St) (k : X → St → Option α) : Option α := loopN (evCode Go.Proofs.Try.prog (callD Go.Proofs.Try.prog (envOf (draymanlaw03_WireBack_C draymanlaw03_awake wire_Ints wire_Flag wire_Text wire_Reader_Int wire_Reader_Flag wire_Reader_Text wire_Reader_Done wire_Reader_Left wire_Int) draymanlaw03_WireBack_q draymanlaw03_WireBack_inl 1000 draymanlaw03_WireBack_ann false (draymanlaw03_WireBack_loops draymanlaw03_awake wire_Ints wire_Flag wire_Text wire_Reader_Int wire_Reader_Flag wire_Reader_Text wire_Reader_Done wire_Reader_Left wire_Int) (fun _ => none)) 6) (((envOf (draymanlaw03_WireBack_C draymanlaw03_awake wire_Ints wire_Flag wire_Text wire_Reader_Int wire_Reader_Flag wire_Reader_Text wire_Reader_Done wire_Reader_Left wire_Int) draymanlaw03_WireBack_q draymanlaw03_WireBack_inl 1000 draymanlaw03_WireBack_ann false (draymanlaw03_WireBack_loops draymanlaw03_awake wire_Ints wire_Flag wire_Text wire_Reader_Int wire_Reader_Flag wire_Reader_Text wire_Reader_Done wire_Reader_Left wire_Int) (fun _ => none)) : Env α).L 6 11) 1000 (draymanlaw03_WireBack_ann 11) (false :: [true, false, true, true, true, true]) (loopC Go.Proofs.Try.prog 11 [true, false, true, true, true, true])) ((draymanlaw03_WireBack_ann 11 [true, false, true, true, true, true]).head 1) ((draymanlaw03_WireBack_ann 11 [true, false, true, true, true, true]).leave 1) n st k

theorem draymanlaw03_WireBack_l0_eq {α : Type} (draymanlaw03_awake : draymanlaw03_awake_T α) (wire_Ints : wire_Ints_T α) (wire_Flag : wire_Flag_T α) (wire_Text : wire_Text_T α) (wire_Reader_Int : wire_Reader_Int_T α) (wire_Reader_Flag : wire_Reader_Flag_T α) (wire_Reader_Text : wire_Reader_Text_T α) (wire_Reader_Done : wire_Reader_Done_T α) (wire_Reader_Left : wire_Reader_Left_T α) (wire_Int : wire_Int_T α) : ∀ (n : Nat) (x9 : Seq (Int × Unit)) (x10 : ByteArray) (x11 : Bool) (x12 : ByteArray) (x13 : Int) (x14 : ByteArray × Bool × Unit) (k : X → St → Option α), draymanlaw03_WireBack_l0_ev draymanlaw03_awake wire_Ints wire_Flag wire_Text wire_Reader_Int wire_Reader_Flag wire_Reader_Text wire_Reader_Done wire_Reader_Left wire_Int n (encSt draymanlaw03_WireBack_l0_t draymanlaw03_WireBack_l0_s draymanlaw03_WireBack_l0_h [.q (.int .i64 (.nil)) x9, .s x10, .b x11, .s x12, .i x13, .s x14.1, .b x14.2.1]) k = draymanlaw03_WireBack_l0_run draymanlaw03_awake wire_Ints wire_Flag wire_Text wire_Reader_Int wire_Reader_Flag wire_Reader_Text wire_Reader_Done wire_Reader_Left wire_Int (fun y1 y2 => k .ret (encSt [.dead, .dead, .dead, .dead, .dead, .dead, .dead, .dead, .bool, .dead, .dead, .dead, .dead, .dead, .dead, .dead, .dead, .dead, .dead, .dead, .dead, .dead, .dead, .dead, .dead, .dead, .dead, .dead, .dead, .dead, .dead, .dead, .dead, .dead, .dead, .dead, .dead, .dead, .dead, .dead, .dead, .dead, .dead, .dead, .dead, .dead, .dead, .dead, .dead, .dead, .dead, .dead, .dead, .dead, .dead, .dead, .dead, .dead, .dead, .dead, .dead, .dead, .dead, .dead, .dead, .dead, .dead, .dead, .dead, .dead, .dead, .dead, .dead, .dead, .dead, .dead, .dead, .dead, .dead, .dead, .dead, .dead, .dead, .dead, .dead, .dead, .dead, .dead, .dead, .dead, .dead, .dead, .dead, .dead, .dead, .dead, .dead, .dead, .dead, .dead, .dead] [] [.box [.str, .bool]] [.b y1, .s y2.1, .b y2.2.1])) (fun y1 y2 y3 y4 => k (.exit 0) (encSt [.dead, .str, .bool, .str, .dead, .dead, .dead, .dead, .dead, .ref 0 0, .dead, .dead, .dead, .dead, .dead, .dead, .dead, .dead, .dead, .dead, .dead, .dead, .dead, .dead, .dead, .dead, .dead, .dead, .dead, .dead, .dead, .dead, .dead, .dead, .dead, .dead, .dead, .dead, .dead, .dead, .dead, .dead, .dead, .dead, .dead, .dead, .dead, .dead, .dead, .dead, .dead, .dead, .dead, .dead, .dead, .dead, .dead, .dead, .dead, .dead, .dead, .dead, .dead, .dead, .dead, .dead, .dead, .dead, .dead, .dead, .dead, .dead, .dead, .dead, .dead, .dead, .dead, .dead, .dead, .dead, .dead, .dead, .dead, .dead, .dead, .dead, .dead, .dead, .dead, .dead, .dead, .dead, .dead, .dead, .dead, .dead, .dead, .dead, .dead, .dead, .dead] [] [.box [.str, .bool]] [.s y1, .b y2, .s y3, .s y4.1, .b y4.2.1])) n x9 x10 x11 x12 x13 x14 := by
  intro n
  induction n with
  | zero => intros; kernel_rfl
  | succ n ih =>
    intro x9 x10 x11 x12 x13 x14 k
    have e : (fun (x9 : Seq (Int × Unit)) (x10 : ByteArray) (x11 : Bool) (x12 : ByteArray) (x13 : Int) (x14 : ByteArray × Bool × Unit) => draymanlaw03_WireBack_l0_ev draymanlaw03_awake wire_Ints wire_Flag wire_Text wire_Reader_Int wire_Reader_Flag wire_Reader_Text wire_Reader_Done wire_Reader_Left wire_Int n (encSt draymanlaw03_WireBack_l0_t draymanlaw03_WireBack_l0_s draymanlaw03_WireBack_l0_h [.q (.int .i64 (.nil)) x9, .s x10, .b x11, .s x12, .i x13, .s x14.1, .b x14.2.1]) k) = (fun (x9 : Seq (Int × Unit)) (x10 : ByteArray) (x11 : Bool) (x12 : ByteArray) (x13 : Int) (x14 : ByteArray × Bool × Unit) => draymanlaw03_WireBack_l0_run draymanlaw03_awake wire_Ints wire_Flag wire_Text wire_Reader_Int wire_Reader_Flag wire_Reader_Text wire_Reader_Done wire_Reader_Left wire_Int (fun y1 y2 => k .ret (encSt [.dead, .dead, .dead, .dead, .dead, .dead, .dead, .dead, .bool, .dead, .dead, .dead, .dead, .dead, .dead, .dead, .dead, .dead, .dead, .dead, .dead, .dead, .dead, .dead, .dead, .dead, .dead, .dead, .dead, .dead, .dead, .dead, .dead, .dead, .dead, .dead, .dead, .dead, .dead, .dead, .dead, .dead, .dead, .dead, .dead, .dead, .dead, .dead, .dead, .dead, .dead, .dead, .dead, .dead, .dead, .dead, .dead, .dead, .dead, .dead, .dead, .dead, .dead, .dead, .dead, .dead, .dead, .dead, .dead, .dead, .dead, .dead, .dead, .dead, .dead, .dead, .dead, .dead, .dead, .dead, .dead, .dead, .dead, .dead, .dead, .dead, .dead, .dead, .dead, .dead, .dead, .dead, .dead, .dead, .dead, .dead, .dead, .dead, .dead, .dead, .dead] [] [.box [.str, .bool]] [.b y1, .s y2.1, .b y2.2.1])) (fun y1 y2 y3 y4 => k (.exit 0) (encSt [.dead, .str, .bool, .str, .dead, .dead, .dead, .dead, .dead, .ref 0 0, .dead, .dead, .dead, .dead, .dead, .dead, .dead, .dead, .dead, .dead, .dead, .dead, .dead, .dead, .dead, .dead, .dead, .dead, .dead, .dead, .dead, .dead, .dead, .dead, .dead, .dead, .dead, .dead, .dead, .dead, .dead, .dead, .dead, .dead, .dead, .dead, .dead, .dead, .dead, .dead, .dead, .dead, .dead, .dead, .dead, .dead, .dead, .dead, .dead, .dead, .dead, .dead, .dead, .dead, .dead, .dead, .dead, .dead, .dead, .dead, .dead, .dead, .dead, .dead, .dead, .dead, .dead, .dead, .dead, .dead, .dead, .dead, .dead, .dead, .dead, .dead, .dead, .dead, .dead, .dead, .dead, .dead, .dead, .dead, .dead, .dead, .dead, .dead, .dead, .dead, .dead] [] [.box [.str, .bool]] [.s y1, .b y2, .s y3, .s y4.1, .b y4.2.1])) n x9 x10 x11 x12 x13 x14) := by
      funext x9 x10 x11 x12 x13 x14
      exact ih x9 x10 x11 x12 x13 x14 k
    have h1 : draymanlaw03_WireBack_l0_ev draymanlaw03_awake wire_Ints wire_Flag wire_Text wire_Reader_Int wire_Reader_Flag wire_Reader_Text wire_Reader_Done wire_Reader_Left wire_Int (n + 1) (encSt draymanlaw03_WireBack_l0_t draymanlaw03_WireBack_l0_s draymanlaw03_WireBack_l0_h [.q (.int .i64 (.nil)) x9, .s x10, .b x11, .s x12, .i x13, .s x14.1, .b x14.2.1]) k = draymanlaw03_WireBack_l0_step draymanlaw03_awake wire_Ints wire_Flag wire_Text wire_Reader_Int wire_Reader_Flag wire_Reader_Text wire_Reader_Done wire_Reader_Left wire_Int (fun y1 y2 => k .ret (encSt [.dead, .dead, .dead, .dead, .dead, .dead, .dead, .dead, .bool, .dead, .dead, .dead, .dead, .dead, .dead, .dead, .dead, .dead, .dead, .dead, .dead, .dead, .dead, .dead, .dead, .dead, .dead, .dead, .dead, .dead, .dead, .dead, .dead, .dead, .dead, .dead, .dead, .dead, .dead, .dead, .dead, .dead, .dead, .dead, .dead, .dead, .dead, .dead, .dead, .dead, .dead, .dead, .dead, .dead, .dead, .dead, .dead, .dead, .dead, .dead, .dead, .dead, .dead, .dead, .dead, .dead, .dead, .dead, .dead, .dead, .dead, .dead, .dead, .dead, .dead, .dead, .dead, .dead, .dead, .dead, .dead, .dead, .dead, .dead, .dead, .dead, .dead, .dead, .dead, .dead, .dead, .dead, .dead, .dead, .dead, .dead, .dead, .dead, .dead, .dead, .dead] [] [.box [.str, .bool]] [.b y1, .s y2.1, .b y2.2.1])) (fun y1 y2 y3 y4 => k (.exit 0) (encSt [.dead, .str, .bool, .str, .dead, .dead, .dead, .dead, .dead, .ref 0 0, .dead, .dead, .dead, .dead, .dead, .dead, .dead, .dead, .dead, .dead, .dead, .dead, .dead, .dead, .dead, .dead, .dead, .dead, .dead, .dead, .dead, .dead, .dead, .dead, .dead, .dead, .dead, .dead, .dead, .dead, .dead, .dead, .dead, .dead, .dead, .dead, .dead, .dead, .dead, .dead, .dead, .dead, .dead, .dead, .dead, .dead, .dead, .dead, .dead, .dead, .dead, .dead, .dead, .dead, .dead, .dead, .dead, .dead, .dead, .dead, .dead, .dead, .dead, .dead, .dead, .dead, .dead, .dead, .dead, .dead, .dead, .dead, .dead, .dead, .dead, .dead, .dead, .dead, .dead, .dead, .dead, .dead, .dead, .dead, .dead, .dead, .dead, .dead, .dead, .dead, .dead] [] [.box [.str, .bool]] [.s y1, .b y2, .s y3, .s y4.1, .b y4.2.1])) (fun (x9 : Seq (Int × Unit)) (x10 : ByteArray) (x11 : Bool) (x12 : ByteArray) (x13 : Int) (x14 : ByteArray × Bool × Unit) => draymanlaw03_WireBack_l0_ev draymanlaw03_awake wire_Ints wire_Flag wire_Text wire_Reader_Int wire_Reader_Flag wire_Reader_Text wire_Reader_Done wire_Reader_Left wire_Int n (encSt draymanlaw03_WireBack_l0_t draymanlaw03_WireBack_l0_s draymanlaw03_WireBack_l0_h [.q (.int .i64 (.nil)) x9, .s x10, .b x11, .s x12, .i x13, .s x14.1, .b x14.2.1]) k) x9 x10 x11 x12 x13 x14 := by kernel_rfl
    have h2 := congrArg (fun r => draymanlaw03_WireBack_l0_step draymanlaw03_awake wire_Ints wire_Flag wire_Text wire_Reader_Int wire_Reader_Flag wire_Reader_Text wire_Reader_Done wire_Reader_Left wire_Int (fun y1 y2 => k .ret (encSt [.dead, .dead, .dead, .dead, .dead, .dead, .dead, .dead, .bool, .dead, .dead, .dead, .dead, .dead, .dead, .dead, .dead, .dead, .dead, .dead, .dead, .dead, .dead, .dead, .dead, .dead, .dead, .dead, .dead, .dead, .dead, .dead, .dead, .dead, .dead, .dead, .dead, .dead, .dead, .dead, .dead, .dead, .dead, .dead, .dead, .dead, .dead, .dead, .dead, .dead, .dead, .dead, .dead, .dead, .dead, .dead, .dead, .dead, .dead, .dead, .dead, .dead, .dead, .dead, .dead, .dead, .dead, .dead, .dead, .dead, .dead, .dead, .dead, .dead, .dead, .dead, .dead, .dead, .dead, .dead, .dead, .dead, .dead, .dead, .dead, .dead, .dead, .dead, .dead, .dead, .dead, .dead, .dead, .dead, .dead, .dead, .dead, .dead, .dead, .dead, .dead] [] [.box [.str, .bool]] [.b y1, .s y2.1, .b y2.2.1])) (fun y1 y2 y3 y4 => k (.exit 0) (encSt [.dead, .str, .bool, .str, .dead, .dead, .dead, .dead, .dead, .ref 0 0, .dead, .dead, .dead, .dead, .dead, .dead, .dead, .dead, .dead, .dead, .dead, .dead, .dead, .dead, .dead, .dead, .dead, .dead, .dead, .dead, .dead, .dead, .dead, .dead, .dead, .dead, .dead, .dead, .dead, .dead, .dead, .dead, .dead, .dead, .dead, .dead, .dead, .dead, .dead, .dead, .dead, .dead, .dead, .dead, .dead, .dead, .dead, .dead, .dead, .dead, .dead, .dead, .dead, .dead, .dead, .dead, .dead, .dead, .dead, .dead, .dead, .dead, .dead, .dead, .dead, .dead, .dead, .dead, .dead, .dead, .dead, .dead, .dead, .dead, .dead, .dead, .dead, .dead, .dead, .dead, .dead, .dead, .dead, .dead, .dead, .dead, .dead, .dead, .dead, .dead, .dead] [] [.box [.str, .bool]] [.s y1, .b y2, .s y3, .s y4.1, .b y4.2.1])) r x9 x10 x11 x12 x13 x14) e
    have h3 : draymanlaw03_WireBack_l0_step draymanlaw03_awake wire_Ints wire_Flag wire_Text wire_Reader_Int wire_Reader_Flag wire_Reader_Text wire_Reader_Done wire_Reader_Left wire_Int (fun y1 y2 => k .ret (encSt [.dead, .dead, .dead, .dead, .dead, .dead, .dead, .dead, .bool, .dead, .dead, .dead, .dead, .dead, .dead, .dead, .dead, .dead, .dead, .dead, .dead, .dead, .dead, .dead, .dead, .dead, .dead, .dead, .dead, .dead, .dead, .dead, .dead, .dead, .dead, .dead, .dead, .dead, .dead, .dead, .dead, .dead, .dead, .dead, .dead, .dead, .dead, .dead, .dead, .dead, .dead, .dead, .dead, .dead, .dead, .dead, .dead, .dead, .dead, .dead, .dead, .dead, .dead, .dead, .dead, .dead, .dead, .dead, .dead, .dead, .dead, .dead, .dead, .dead, .dead, .dead, .dead, .dead, .dead, .dead, .dead, .dead, .dead, .dead, .dead, .dead, .dead, .dead, .dead, .dead, .dead, .dead, .dead, .dead, .dead, .dead, .dead, .dead, .dead, .dead, .dead] [] [.box [.str, .bool]] [.b y1, .s y2.1, .b y2.2.1])) (fun y1 y2 y3 y4 => k (.exit 0) (encSt [.dead, .str, .bool, .str, .dead, .dead, .dead, .dead, .dead, .ref 0 0, .dead, .dead, .dead, .dead, .dead, .dead, .dead, .dead, .dead, .dead, .dead, .dead, .dead, .dead, .dead, .dead, .dead, .dead, .dead, .dead, .dead, .dead, .dead, .dead, .dead, .dead, .dead, .dead, .dead, .dead, .dead, .dead, .dead, .dead, .dead, .dead, .dead, .dead, .dead, .dead, .dead, .dead, .dead, .dead, .dead, .dead, .dead, .dead, .dead, .dead, .dead, .dead, .dead, .dead, .dead, .dead, .dead, .dead, .dead, .dead, .dead, .dead, .dead, .dead, .dead, .dead, .dead, .dead, .dead, .dead, .dead, .dead, .dead, .dead, .dead, .dead, .dead, .dead, .dead, .dead, .dead, .dead, .dead, .dead, .dead, .dead, .dead, .dead, .dead, .dead, .dead] [] [.box [.str, .bool]] [.s y1, .b y2, .s y3, .s y4.1, .b y4.2.1])) (fun (x9 : Seq (Int × Unit)) (x10 : ByteArray) (x11 : Bool) (x12 : ByteArray) (x13 : Int) (x14 : ByteArray × Bool × Unit) => draymanlaw03_WireBack_l0_run draymanlaw03_awake wire_Ints wire_Flag wire_Text wire_Reader_Int wire_Reader_Flag wire_Reader_Text wire_Reader_Done wire_Reader_Left wire_Int (fun y1 y2 => k .ret (encSt [.dead, .dead, .dead, .dead, .dead, .dead, .dead, .dead, .bool, .dead, .dead, .dead, .dead, .dead, .dead, .dead, .dead, .dead, .dead, .dead, .dead, .dead, .dead, .dead, .dead, .dead, .dead, .dead, .dead, .dead, .dead, .dead, .dead, .dead, .dead, .dead, .dead, .dead, .dead, .dead, .dead, .dead, .dead, .dead, .dead, .dead, .dead, .dead, .dead, .dead, .dead, .dead, .dead, .dead, .dead, .dead, .dead, .dead, .dead, .dead, .dead, .dead, .dead, .dead, .dead, .dead, .dead, .dead, .dead, .dead, .dead, .dead, .dead, .dead, .dead, .dead, .dead, .dead, .dead, .dead, .dead, .dead, .dead, .dead, .dead, .dead, .dead, .dead, .dead, .dead, .dead, .dead, .dead, .dead, .dead, .dead, .dead, .dead, .dead, .dead, .dead] [] [.box [.str, .bool]] [.b y1, .s y2.1, .b y2.2.1])) (fun y1 y2 y3 y4 => k (.exit 0) (encSt [.dead, .str, .bool, .str, .dead, .dead, .dead, .dead, .dead, .ref 0 0, .dead, .dead, .dead, .dead, .dead, .dead, .dead, .dead, .dead, .dead, .dead, .dead, .dead, .dead, .dead, .dead, .dead, .dead, .dead, .dead, .dead, .dead, .dead, .dead, .dead, .dead, .dead, .dead, .dead, .dead, .dead, .dead, .dead, .dead, .dead, .dead, .dead, .dead, .dead, .dead, .dead, .dead, .dead, .dead, .dead, .dead, .dead, .dead, .dead, .dead, .dead, .dead, .dead, .dead, .dead, .dead, .dead, .dead, .dead, .dead, .dead, .dead, .dead, .dead, .dead, .dead, .dead, .dead, .dead, .dead, .dead, .dead, .dead, .dead, .dead, .dead, .dead, .dead, .dead, .dead, .dead, .dead, .dead, .dead, .dead, .dead, .dead, .dead, .dead, .dead, .dead] [] [.box [.str, .bool]] [.s y1, .b y2, .s y3, .s y4.1, .b y4.2.1])) n x9 x10 x11 x12 x13 x14) x9 x10 x11 x12 x13 x14 = draymanlaw03_WireBack_l0_run draymanlaw03_awake wire_Ints wire_Flag wire_Text wire_Reader_Int wire_Reader_Flag wire_Reader_Text wire_Reader_Done wire_Reader_Left wire_Int (fun y1 y2 => k .ret (encSt [.dead, .dead, .dead, .dead, .dead, .dead, .dead, .dead, .bool, .dead, .dead, .dead, .dead, .dead, .dead, .dead, .dead, .dead, .dead, .dead, .dead, .dead, .dead, .dead, .dead, .dead, .dead, .dead, .dead, .dead, .dead, .dead, .dead, .dead, .dead, .dead, .dead, .dead, .dead, .dead, .dead, .dead, .dead, .dead, .dead, .dead, .dead, .dead, .dead, .dead, .dead, .dead, .dead, .dead, .dead, .dead, .dead, .dead, .dead, .dead, .dead, .dead, .dead, .dead, .dead, .dead, .dead, .dead, .dead, .dead, .dead, .dead, .dead, .dead, .dead, .dead, .dead, .dead, .dead, .dead, .dead, .dead, .dead, .dead, .dead, .dead, .dead, .dead, .dead, .dead, .dead, .dead, .dead, .dead, .dead, .dead, .dead, .dead, .dead, .dead, .dead] [] [.box [.str, .bool]] [.b y1, .s y2.1, .b y2.2.1])) (fun y1 y2 y3 y4 => k (.exit 0) (encSt [.dead, .str, .bool, .str, .dead, .dead, .dead, .dead, .dead, .ref 0 0, .dead, .dead, .dead, .dead, .dead, .dead, .dead, .dead, .dead, .dead, .dead, .dead, .dead, .dead, .dead, .dead, .dead, .dead, .dead, .dead, .dead, .dead, .dead, .dead, .dead, .dead, .dead, .dead, .dead, .dead, .dead, .dead, .dead, .dead, .dead, .dead, .dead, .dead, .dead, .dead, .dead, .dead, .dead, .dead, .dead, .dead, .dead, .dead, .dead, .dead, .dead, .dead, .dead, .dead, .dead, .dead, .dead, .dead, .dead, .dead, .dead, .dead, .dead, .dead, .dead, .dead, .dead, .dead, .dead, .dead, .dead, .dead, .dead, .dead, .dead, .dead, .dead, .dead, .dead, .dead, .dead, .dead, .dead, .dead, .dead, .dead, .dead, .dead, .dead, .dead, .dead] [] [.box [.str, .bool]] [.s y1, .b y2, .s y3, .s y4.1, .b y4.2.1])) (n + 1) x9 x10 x11 x12 x13 x14 := by kernel_rfl
    exact h1.trans (h2.trans h3)

theorem draymanlaw03_WireBack_l0_ok {α : Type} (draymanlaw03_awake : draymanlaw03_awake_T α) (wire_Ints : wire_Ints_T α) (wire_Flag : wire_Flag_T α) (wire_Text : wire_Text_T α) (wire_Reader_Int : wire_Reader_Int_T α) (wire_Reader_Flag : wire_Reader_Flag_T α) (wire_Reader_Text : wire_Reader_Text_T α) (wire_Reader_Done : wire_Reader_Done_T α) (wire_Reader_Left : wire_Reader_Left_T α) (wire_Int : wire_Int_T α) : (draymanlaw03_WireBack_l0_spec draymanlaw03_awake wire_Ints wire_Flag wire_Text wire_Reader_Int wire_Reader_Flag wire_Reader_Text wire_Reader_Done wire_Reader_Left wire_Int : LoopSpec α).ok Go.Proofs.Try.prog (envOf (draymanlaw03_WireBack_C draymanlaw03_awake wire_Ints wire_Flag wire_Text wire_Reader_Int wire_Reader_Flag wire_Reader_Text wire_Reader_Done wire_Reader_Left wire_Int) draymanlaw03_WireBack_q draymanlaw03_WireBack_inl 1000 draymanlaw03_WireBack_ann false (draymanlaw03_WireBack_loops draymanlaw03_awake wire_Ints wire_Flag wire_Text wire_Reader_Int wire_Reader_Flag wire_Reader_Text wire_Reader_Done wire_Reader_Left wire_Int) (fun _ => none)) := by
  intro ds k
  have h1 : draymanlaw03_WireBack_l0_ev draymanlaw03_awake wire_Ints wire_Flag wire_Text wire_Reader_Int wire_Reader_Flag wire_Reader_Text wire_Reader_Done wire_Reader_Left wire_Int 1000 (encSt draymanlaw03_WireBack_l0_t draymanlaw03_WireBack_l0_s draymanlaw03_WireBack_l0_h ds) k = draymanlaw03_WireBack_l0_ev draymanlaw03_awake wire_Ints wire_Flag wire_Text wire_Reader_Int wire_Reader_Flag wire_Reader_Text wire_Reader_Done wire_Reader_Left wire_Int 1000 (encSt draymanlaw03_WireBack_l0_t draymanlaw03_WireBack_l0_s draymanlaw03_WireBack_l0_h [.q (.int .i64 (.nil)) (hdQ (.int .i64 (.nil)) ds), .s (hdS ds.tail), .b (hdB ds.tail.tail), .s (hdS ds.tail.tail.tail), .i (hdI ds.tail.tail.tail.tail), .s ((hdS ds.tail.tail.tail.tail.tail, hdB ds.tail.tail.tail.tail.tail.tail, ()).1), .b ((hdS ds.tail.tail.tail.tail.tail, hdB ds.tail.tail.tail.tail.tail.tail, ()).2.1)]) k := by kernel_rfl
  have h2 := draymanlaw03_WireBack_l0_eq draymanlaw03_awake wire_Ints wire_Flag wire_Text wire_Reader_Int wire_Reader_Flag wire_Reader_Text wire_Reader_Done wire_Reader_Left wire_Int 1000 (hdQ (.int .i64 (.nil)) ds) (hdS ds.tail) (hdB ds.tail.tail) (hdS ds.tail.tail.tail) (hdI ds.tail.tail.tail.tail) (hdS ds.tail.tail.tail.tail.tail, hdB ds.tail.tail.tail.tail.tail.tail, ()) k
  exact h1.trans h2

theorem draymanlaw03_WireBack_ev {α : Type} (draymanlaw03_awake : draymanlaw03_awake_T α) (wire_Ints : wire_Ints_T α) (wire_Flag : wire_Flag_T α) (wire_Text : wire_Text_T α) (wire_Reader_Int : wire_Reader_Int_T α) (wire_Reader_Flag : wire_Reader_Flag_T α) (wire_Reader_Text : wire_Reader_Text_T α) (wire_Reader_Done : wire_Reader_Done_T α) (wire_Reader_Left : wire_Reader_Left_T α) (wire_Int : wire_Int_T α) : EvOk (α := α) Go.Proofs.Try.prog (envOf (draymanlaw03_WireBack_C draymanlaw03_awake wire_Ints wire_Flag wire_Text wire_Reader_Int wire_Reader_Flag wire_Reader_Text wire_Reader_Done wire_Reader_Left wire_Int) draymanlaw03_WireBack_q draymanlaw03_WireBack_inl 1000 draymanlaw03_WireBack_ann false (draymanlaw03_WireBack_loops draymanlaw03_awake wire_Ints wire_Flag wire_Text wire_Reader_Int wire_Reader_Flag wire_Reader_Text wire_Reader_Done wire_Reader_Left wire_Int) (fun _ => none)) 6 (draymanlaw03_WireBack_sp (draymanlaw03_WireBack_g draymanlaw03_awake wire_Ints wire_Flag wire_Text wire_Reader_Int wire_Reader_Flag wire_Reader_Text wire_Reader_Done wire_Reader_Left wire_Int)) := by intro ds k; kernel_rfl

theorem draymanlaw03_WireBack_ok {α : Type} : (draymanlaw03_WireBack_spec : FunSpec α).ok Go.Proofs.Try.prog :=
  FunSpec.ok_of (sp := draymanlaw03_WireBack_spec) (C := draymanlaw03_WireBack_C draymanlaw03_awake wire_Ints wire_Flag wire_Text wire_Reader_Int wire_Reader_Flag wire_Reader_Text wire_Reader_Done wire_Reader_Left wire_Int) (q := draymanlaw03_WireBack_q) (inl := draymanlaw03_WireBack_inl) (N := 1000) (ann := draymanlaw03_WireBack_ann) (fr := false) (D := 6) (l := (draymanlaw03_WireBack_loops draymanlaw03_awake wire_Ints wire_Flag wire_Text wire_Reader_Int wire_Reader_Flag wire_Reader_Text wire_Reader_Done wire_Reader_Left wire_Int)) (hk := (fun _ => none)) (okCons draymanlaw03_awake_ok (okCons wire_Ints_ok (okCons wire_Flag_ok (okCons wire_Text_ok (okCons wire_Reader_Int_ok (okCons wire_Reader_Flag_ok (okCons wire_Reader_Text_ok (okCons wire_Reader_Done_ok (okCons wire_Reader_Left_ok (okCons wire_Int_ok okNil)))))))))) (lokCons (draymanlaw03_WireBack_l0_ok draymanlaw03_awake wire_Ints wire_Flag wire_Text wire_Reader_Int wire_Reader_Flag wire_Reader_Text wire_Reader_Done wire_Reader_Left wire_Int) lokNil) noHooks (draymanlaw03_WireBack_ev draymanlaw03_awake wire_Ints wire_Flag wire_Text wire_Reader_Int wire_Reader_Flag wire_Reader_Text wire_Reader_Done wire_Reader_Left wire_Int)

end
end Go.Rv.Try

set_option linter.unusedVariables false
set_option maxRecDepth 100000
set_option maxHeartbeats 4000000
namespace Go.Rv.Try
open Go Go.Rv Go.RowKit
noncomputable section

-- (*drayman/draymanref03.Reader).fails

abbrev draymanref03_Reader_fails_T (α : Type) : Type := (ByteArray × Bool × Unit) → ((ByteArray × Bool × Unit) → Option α) → Option α

noncomputable def draymanref03_Reader_fails {α : Type} (x1 : ByteArray × Bool × Unit) (k : (ByteArray × Bool × Unit) → Option α) : Option α :=
  (k ((⟨#[]⟩ : ByteArray), true, ()))

noncomputable def draymanref03_Reader_fails_sp {α : Type} (draymanref03_Reader_fails : draymanref03_Reader_fails_T α) : FunSpec α := ⟨81, [.ref 0 0], [.box [.str, .bool]], fun ds k => draymanref03_Reader_fails (hdS ds, hdB ds.tail, ()) (fun r1 => k (enc dep (.tup []) []).1 (encBs [.box [.str, .bool]] [.s r1.1, .b r1.2.1]).1)⟩

noncomputable def draymanref03_Reader_fails_spec {α : Type} : FunSpec α := draymanref03_Reader_fails_sp draymanref03_Reader_fails

noncomputable def draymanref03_Reader_fails_C {α : Type} : List (FunSpec α) := []

noncomputable def draymanref03_Reader_fails_q : FuncId → Bool := fun f => false

noncomputable def draymanref03_Reader_fails_inl : FuncId → Bool := fun f => false

noncomputable def draymanref03_Reader_fails_ann : FuncId → AnnT := fun f p => ⟨[], [], [], [], 0, [], []⟩

noncomputable def draymanref03_Reader_fails_loops {α : Type} : List (LoopSpec α) := []

theorem draymanref03_Reader_fails_ev {α : Type} : EvOk (α := α) Go.Proofs.Try.prog (envOf (draymanref03_Reader_fails_C) draymanref03_Reader_fails_q draymanref03_Reader_fails_inl 1000 draymanref03_Reader_fails_ann false (draymanref03_Reader_fails_loops) (fun _ => none)) 6 (draymanref03_Reader_fails_sp (draymanref03_Reader_fails)) := by intro ds k; kernel_rfl

theorem draymanref03_Reader_fails_ok {α : Type} : (draymanref03_Reader_fails_spec : FunSpec α).ok Go.Proofs.Try.prog :=
  FunSpec.ok_of (sp := draymanref03_Reader_fails_spec) (C := draymanref03_Reader_fails_C) (q := draymanref03_Reader_fails_q) (inl := draymanref03_Reader_fails_inl) (N := 1000) (ann := draymanref03_Reader_fails_ann) (fr := false) (D := 6) (l := (draymanref03_Reader_fails_loops)) (hk := (fun _ => none)) okNil lokNil noHooks (draymanref03_Reader_fails_ev)

end
end Go.Rv.Try

set_option linter.unusedVariables false
set_option maxRecDepth 100000
set_option maxHeartbeats 4000000
namespace Go.Rv.Try
open Go Go.Rv Go.RowKit
noncomputable section

-- (*drayman/draymanref03.Reader).Int

abbrev draymanref03_Reader_Int_T (α : Type) : Type := Int → Int → (ByteArray × Bool × Unit) → (Int → (ByteArray × Bool × Unit) → Option α) → Option α

noncomputable def draymanref03_Reader_Int_l0_step {α : Type} (draymanref03_Reader_fails : draymanref03_Reader_fails_T α) (k0 : (Int) → (Int) → (Int) → (Int) → (ByteArray × Bool × Unit) → Option α) (rec : (Int) → (Int) → (Int) → (Int) → (Int) → (ByteArray × Bool × Unit) → Option α) (x5 : Int) (x6 : Int) (x7 : Int) (x8 : Int) (x9 : Int) (x10 : ByteArray × Bool × Unit) : Option α :=
  (cond (decide (x9 < x7))
    (cond ((decide ((0 : Int) ≤ x9)) && (decide (x9 < (x10.1.size : Int))))
      (rec x5 x6 x7 (IntKind.u64.wrap ((IntKind.u64.wrap (x8 * 256)) + (IntKind.u64.wrap (byteAt x10.1 x9)))) (IntKind.i64.wrap (x9 + 1)) x10)
      none)
    (k0 x5 x6 x7 x8 x10))

noncomputable def draymanref03_Reader_Int_l0_run {α : Type} (draymanref03_Reader_fails : draymanref03_Reader_fails_T α) (k0 : (Int) → (Int) → (Int) → (Int) → (ByteArray × Bool × Unit) → Option α) : Nat → (Int) → (Int) → (Int) → (Int) → (Int) → (ByteArray × Bool × Unit) → Option α
  | 0, _, _, _, _, _, _ => none
  | n + 1, x5, x6, x7, x8, x9, x10 => draymanref03_Reader_Int_l0_step draymanref03_Reader_fails k0 (fun x5 x6 x7 x8 x9 x10 => draymanref03_Reader_Int_l0_run draymanref03_Reader_fails k0 n x5 x6 x7 x8 x9 x10) x5 x6 x7 x8 x9 x10

noncomputable def draymanref03_Reader_Int_g {α : Type} (draymanref03_Reader_fails : draymanref03_Reader_fails_T α) (x1 : Int) (x2 : Int) (x3 : ByteArray × Bool × Unit) (k : Int → (ByteArray × Bool × Unit) → Option α) : Option α :=
  (cond (!x3.2.1)
    (cond (!((x3.1.size : Int) == 0))
      (cond (decide ((0 : Int) < (x3.1.size : Int)))
        (cond (!(decide ((byteAt x3.1 0) > 8)))
          (cond (decide ((0 : Int) < (x3.1.size : Int)))
            (cond (!(decide ((x3.1.size : Int) < (IntKind.i64.wrap (1 + (IntKind.i64.wrap (byteAt x3.1 0)))))))
              (cond (decide ((0 : Int) < (x3.1.size : Int)))
                (cond (decide ((byteAt x3.1 0) > 0))
                  (cond (decide ((1 : Int) < (x3.1.size : Int)))
                    (cond ((byteAt x3.1 1) == 0)
                      (draymanref03_Reader_fails x3 fun r4 =>
                        (k 0 r4))
                      (cond (decide ((0 : Int) < (x3.1.size : Int)))
                        (draymanref03_Reader_Int_l0_run draymanref03_Reader_fails
                          (fun x11 x12 x13 x14 x15 =>
                            (cond ((Int.tmod x14 2) == 1)
                              (cond (!(decide ((IntKind.i64.wrap ((IntKind.i64.wrap (0 - (IntKind.i64.wrap (IntKind.u64.wrap (Int.tdiv x14 2))))) - 1)) < x11)))
                                (cond (decide ((IntKind.i64.wrap ((IntKind.i64.wrap (0 - (IntKind.i64.wrap (IntKind.u64.wrap (Int.tdiv x14 2))))) - 1)) > x12))
                                  (draymanref03_Reader_fails x15 fun r16 =>
                                    (k 0 r16))
                                  (cond ((decide ((0 : Int) ≤ x13)) && (decide (x13 ≤ (x15.1.size : Int))))
                                    (k (IntKind.i64.wrap ((IntKind.i64.wrap (0 - (IntKind.i64.wrap (IntKind.u64.wrap (Int.tdiv x14 2))))) - 1)) ((x15.1.extract x13.toNat x15.1.size), x15.2.1, ()))
                                    none))
                                (draymanref03_Reader_fails x15 fun r17 =>
                                  (k 0 r17)))
                              (cond (!(decide ((IntKind.i64.wrap (IntKind.u64.wrap (Int.tdiv x14 2))) < x11)))
                                (cond (decide ((IntKind.i64.wrap (IntKind.u64.wrap (Int.tdiv x14 2))) > x12))
                                  (draymanref03_Reader_fails x15 fun r18 =>
                                    (k 0 r18))
                                  (cond ((decide ((0 : Int) ≤ x13)) && (decide (x13 ≤ (x15.1.size : Int))))
                                    (k (IntKind.i64.wrap (IntKind.u64.wrap (Int.tdiv x14 2))) ((x15.1.extract x13.toNat x15.1.size), x15.2.1, ()))
                                    none))
                                (draymanref03_Reader_fails x15 fun r19 =>
                                  (k 0 r19)))))
                          1000 x1 x2 (IntKind.i64.wrap (1 + (IntKind.i64.wrap (byteAt x3.1 0)))) 0 1 x3)
                        none))
                    none)
                  (cond (decide ((0 : Int) < (x3.1.size : Int)))
                    (draymanref03_Reader_Int_l0_run draymanref03_Reader_fails
                      (fun x20 x21 x22 x23 x24 =>
                        (cond ((Int.tmod x23 2) == 1)
                          (cond (!(decide ((IntKind.i64.wrap ((IntKind.i64.wrap (0 - (IntKind.i64.wrap (IntKind.u64.wrap (Int.tdiv x23 2))))) - 1)) < x20)))
                            (cond (decide ((IntKind.i64.wrap ((IntKind.i64.wrap (0 - (IntKind.i64.wrap (IntKind.u64.wrap (Int.tdiv x23 2))))) - 1)) > x21))
                              (draymanref03_Reader_fails x24 fun r25 =>
                                (k 0 r25))
                              (cond ((decide ((0 : Int) ≤ x22)) && (decide (x22 ≤ (x24.1.size : Int))))
                                (k (IntKind.i64.wrap ((IntKind.i64.wrap (0 - (IntKind.i64.wrap (IntKind.u64.wrap (Int.tdiv x23 2))))) - 1)) ((x24.1.extract x22.toNat x24.1.size), x24.2.1, ()))
                                none))
                            (draymanref03_Reader_fails x24 fun r26 =>
                              (k 0 r26)))
                          (cond (!(decide ((IntKind.i64.wrap (IntKind.u64.wrap (Int.tdiv x23 2))) < x20)))
                            (cond (decide ((IntKind.i64.wrap (IntKind.u64.wrap (Int.tdiv x23 2))) > x21))
                              (draymanref03_Reader_fails x24 fun r27 =>
                                (k 0 r27))
                              (cond ((decide ((0 : Int) ≤ x22)) && (decide (x22 ≤ (x24.1.size : Int))))
                                (k (IntKind.i64.wrap (IntKind.u64.wrap (Int.tdiv x23 2))) ((x24.1.extract x22.toNat x24.1.size), x24.2.1, ()))
                                none))
                            (draymanref03_Reader_fails x24 fun r28 =>
                              (k 0 r28)))))
                      1000 x1 x2 (IntKind.i64.wrap (1 + (IntKind.i64.wrap (byteAt x3.1 0)))) 0 1 x3)
                    none))
                none)
              (draymanref03_Reader_fails x3 fun r29 =>
                (k 0 r29)))
            none)
          (draymanref03_Reader_fails x3 fun r30 =>
            (k 0 r30)))
        none)
      (draymanref03_Reader_fails x3 fun r31 =>
        (k 0 r31)))
    (draymanref03_Reader_fails x3 fun r32 =>
      (k 0 r32)))

noncomputable def draymanref03_Reader_Int {α : Type} : draymanref03_Reader_Int_T α := draymanref03_Reader_Int_g draymanref03_Reader_fails

noncomputable def draymanref03_Reader_Int_sp {α : Type} (draymanref03_Reader_Int : draymanref03_Reader_Int_T α) : FunSpec α := ⟨42, [.ref 0 0, .int .i64, .int .i64], [.box [.str, .bool]], fun ds k => draymanref03_Reader_Int (hdI ds) (hdI ds.tail) (hdS ds.tail.tail, hdB ds.tail.tail.tail, ()) (fun r1 r2 => k (enc dep (.int .i64) [.i r1]).1 (encBs [.box [.str, .bool]] [.s r2.1, .b r2.2.1]).1)⟩

noncomputable def draymanref03_Reader_Int_spec {α : Type} : FunSpec α := draymanref03_Reader_Int_sp draymanref03_Reader_Int

noncomputable def draymanref03_Reader_Int_C {α : Type} (draymanref03_Reader_fails : draymanref03_Reader_fails_T α) : List (FunSpec α) := [draymanref03_Reader_fails_sp draymanref03_Reader_fails]

noncomputable def draymanref03_Reader_Int_q : FuncId → Bool := fun f => Nat.beq f 81

noncomputable def draymanref03_Reader_Int_inl : FuncId → Bool := fun f => false

noncomputable def draymanref03_Reader_Int_ann : FuncId → AnnT := fun f p => if f = 42 then (if p = [true, false, true, true, true, true] then ⟨[0, 1, 2, 7, 8, 9], [], [0, 1, 2, 7, 8], [6], 0, [], []⟩ else ⟨[], [], [], [], 0, [], []⟩) else ⟨[], [], [], [], 0, [], []⟩

noncomputable def draymanref03_Reader_Int_l0_t : List Sh := [.ref 0 0, .int .i64, .int .i64, .dead, .dead, .dead, .dead, .int .i64, .int .u64, .int .i64, .dead, .dead, .dead, .dead, .dead, .dead, .dead, .dead, .dead, .dead, .dead, .dead, .dead, .dead, .dead, .dead, .dead, .dead, .dead, .dead, .dead, .dead, .dead, .dead, .dead, .dead, .dead, .dead, .dead, .dead, .dead, .dead, .dead, .dead, .dead, .dead, .dead, .dead, .dead, .dead, .dead, .dead, .dead, .dead, .dead, .dead, .dead, .dead, .dead, .dead, .dead, .dead, .dead, .dead, .dead, .dead, .dead, .dead, .dead, .dead, .dead, .dead, .dead, .dead, .dead, .dead, .dead, .dead, .dead, .dead, .dead, .dead, .dead, .dead, .dead, .dead, .dead, .dead, .dead, .dead, .dead, .dead, .dead, .dead, .dead, .dead, .dead, .dead, .dead, .dead, .dead, .dead, .dead, .dead, .dead, .dead, .dead, .dead, .dead, .dead, .dead, .dead, .dead, .dead, .dead]
noncomputable def draymanref03_Reader_Int_l0_s : List (List Sh) := []
noncomputable def draymanref03_Reader_Int_l0_h : List BSh := [.box [.str, .bool]]

noncomputable def draymanref03_Reader_Int_l0_spec {α : Type} (draymanref03_Reader_fails : draymanref03_Reader_fails_T α) : LoopSpec α := ⟨6, 42, [true, false, true, true, true, true], draymanref03_Reader_Int_l0_t, draymanref03_Reader_Int_l0_s, draymanref03_Reader_Int_l0_h, fun ds k => draymanref03_Reader_Int_l0_run draymanref03_Reader_fails (fun y1 y2 y3 y4 y5 => k (.exit 0) (encSt [.ref 0 0, .int .i64, .int .i64, .dead, .dead, .dead, .dead, .int .i64, .int .u64, .dead, .dead, .dead, .dead, .dead, .dead, .dead, .dead, .dead, .dead, .dead, .dead, .dead, .dead, .dead, .dead, .dead, .dead, .dead, .dead, .dead, .dead, .dead, .dead, .dead, .dead, .dead, .dead, .dead, .dead, .dead, .dead, .dead, .dead, .dead, .dead, .dead, .dead, .dead, .dead, .dead, .dead, .dead, .dead, .dead, .dead, .dead, .dead, .dead, .dead, .dead, .dead, .dead, .dead, .dead, .dead, .dead, .dead, .dead, .dead, .dead, .dead, .dead, .dead, .dead, .dead, .dead, .dead, .dead, .dead, .dead, .dead, .dead, .dead, .dead, .dead, .dead, .dead, .dead, .dead, .dead, .dead, .dead, .dead, .dead, .dead, .dead, .dead, .dead, .dead, .dead, .dead, .dead, .dead, .dead, .dead, .dead, .dead, .dead, .dead, .dead, .dead, .dead, .dead, .dead, .dead] [] [.box [.str, .bool]] [.i y1, .i y2, .i y3, .i y4, .s y5.1, .b y5.2.1])) 1000 (hdI ds) (hdI ds.tail) (hdI ds.tail.tail) (hdI ds.tail.tail.tail) (hdI ds.tail.tail.tail.tail) (hdS ds.tail.tail.tail.tail.tail, hdB ds.tail.tail.tail.tail.tail.tail, ())⟩

noncomputable def draymanref03_Reader_Int_loops {α : Type} (draymanref03_Reader_fails : draymanref03_Reader_fails_T α) : List (LoopSpec α) := [draymanref03_Reader_Int_l0_spec draymanref03_Reader_fails]

noncomputable def draymanref03_Reader_Int_l0_ev {α : Type} (draymanref03_Reader_fails : draymanref03_Reader_fails_T α) (n : Nat) (st : St) (k : X → St → Option α) : Option α := loopN (evCode Go.Proofs.Try.prog (callD Go.Proofs.Try.prog (envOf (draymanref03_Reader_Int_C draymanref03_Reader_fails) draymanref03_Reader_Int_q draymanref03_Reader_Int_inl 1000 draymanref03_Reader_Int_ann false (draymanref03_Reader_Int_loops draymanref03_Reader_fails) (fun _ => none)) 6) (((envOf (draymanref03_Reader_Int_C draymanref03_Reader_fails) draymanref03_Reader_Int_q draymanref03_Reader_Int_inl 1000 draymanref03_Reader_Int_ann false (draymanref03_Reader_Int_loops draymanref03_Reader_fails) (fun _ => none)) : Env α).L 6 42) 1000 (draymanref03_Reader_Int_ann 42) (false :: [true, false, true, true, true, true]) (loopC Go.Proofs.Try.prog 42 [true, false, true, true, true, true])) ((draymanref03_Reader_Int_ann 42 [true, false, true, true, true, true]).head 1) ((draymanref03_Reader_Int_ann 42 [true, false, true, true, true, true]).leave 1) n st k

theorem draymanref03_Reader_Int_l0_eq {α : Type} (draymanref03_Reader_fails : draymanref03_Reader_fails_T α) : ∀ (n : Nat) (x5 : Int) (x6 : Int) (x7 : Int) (x8 : Int) (x9 : Int) (x10 : ByteArray × Bool × Unit) (k : X → St → Option α), draymanref03_Reader_Int_l0_ev draymanref03_Reader_fails n (encSt draymanref03_Reader_Int_l0_t draymanref03_Reader_Int_l0_s draymanref03_Reader_Int_l0_h [.i x5, .i x6, .i x7, .i x8, .i x9, .s x10.1, .b x10.2.1]) k = draymanref03_Reader_Int_l0_run draymanref03_Reader_fails (fun y1 y2 y3 y4 y5 => k (.exit 0) (encSt [.ref 0 0, .int .i64, .int .i64, .dead, .dead, .dead, .dead, .int .i64, .int .u64, .dead, .dead, .dead, .dead, .dead, .dead, .dead, .dead, .dead, .dead, .dead, .dead, .dead, .dead, .dead, .dead, .dead, .dead, .dead, .dead, .dead, .dead, .dead, .dead, .dead, .dead, .dead, .dead, .dead, .dead, .dead, .dead, .dead, .dead, .dead, .dead, .dead, .dead, .dead, .dead, .dead, .dead, .dead, .dead, .dead, .dead, .dead, .dead, .dead, .dead, .dead, .dead, .dead, .dead, .dead, .dead, .dead, .dead, .dead, .dead, .dead, .dead, .dead, .dead, .dead, .dead, .dead, .dead, .dead, .dead, .dead, .dead, .dead, .dead, .dead, .dead, .dead, .dead, .dead, .dead, .dead, .dead, .dead, .dead, .dead, .dead, .dead, .dead, .dead, .dead, .dead, .dead, .dead, .dead, .dead, .dead, .dead, .dead, .dead, .dead, .dead, .dead, .dead, .dead, .dead, .dead] [] [.box [.str, .bool]] [.i y1, .i y2, .i y3, .i y4, .s y5.1, .b y5.2.1])) n x5 x6 x7 x8 x9 x10 := by
  intro n
  induction n with
  | zero => intros; kernel_rfl
  | succ n ih =>
    intro x5 x6 x7 x8 x9 x10 k
    have e : (fun (x5 : Int) (x6 : Int) (x7 : Int) (x8 : Int) (x9 : Int) (x10 : ByteArray × Bool × Unit) => draymanref03_Reader_Int_l0_ev draymanref03_Reader_fails n (encSt draymanref03_Reader_Int_l0_t draymanref03_Reader_Int_l0_s draymanref03_Reader_Int_l0_h [.i x5, .i x6, .i x7, .i x8, .i x9, .s x10.1, .b x10.2.1]) k) = (fun (x5 : Int) (x6 : Int) (x7 : Int) (x8 : Int) (x9 : Int) (x10 : ByteArray × Bool × Unit) => draymanref03_Reader_Int_l0_run draymanref03_Reader_fails (fun y1 y2 y3 y4 y5 => k (.exit 0) (encSt [.ref 0 0, .int .i64, .int .i64, .dead, .dead, .dead, .dead, .int .i64, .int .u64, .dead, .dead, .dead, .dead, .dead, .dead, .dead, .dead, .dead, .dead, .dead, .dead, .dead, .dead, .dead, .dead, .dead, .dead, .dead, .dead, .dead, .dead, .dead, .dead, .dead, .dead, .dead, .dead, .dead, .dead, .dead, .dead, .dead, .dead, .dead, .dead, .dead, .dead, .dead, .dead, .dead, .dead, .dead, .dead, .dead, .dead, .dead, .dead, .dead, .dead, .dead, .dead, .dead, .dead, .dead, .dead, .dead, .dead, .dead, .dead, .dead, .dead, .dead, .dead, .dead, .dead, .dead, .dead, .dead, .dead, .dead, .dead, .dead, .dead, .dead, .dead, .dead, .dead, .dead, .dead, .dead, .dead, .dead, .dead, .dead, .dead, .dead, .dead, .dead, .dead, .dead, .dead, .dead, .dead, .dead, .dead, .dead, .dead, .dead, .dead, .dead, .dead, .dead, .dead, .dead, .dead] [] [.box [.str, .bool]] [.i y1, .i y2, .i y3, .i y4, .s y5.1, .b y5.2.1])) n x5 x6 x7 x8 x9 x10) := by
      funext x5 x6 x7 x8 x9 x10
      exact ih x5 x6 x7 x8 x9 x10 k
    have h1 : draymanref03_Reader_Int_l0_ev draymanref03_Reader_fails (n + 1) (encSt draymanref03_Reader_Int_l0_t draymanref03_Reader_Int_l0_s draymanref03_Reader_Int_l0_h [.i x5, .i x6, .i x7, .i x8, .i x9, .s x10.1, .b x10.2.1]) k = draymanref03_Reader_Int_l0_step draymanref03_Reader_fails (fun y1 y2 y3 y4 y5 => k (.exit 0) (encSt [.ref 0 0, .int .i64, .int .i64, .dead, .dead, .dead, .dead, .int .i64, .int .u64, .dead, .dead, .dead, .dead, .dead, .dead, .dead, .dead, .dead, .dead, .dead, .dead, .dead, .dead, .dead, .dead, .dead, .dead, .dead, .dead, .dead, .dead, .dead, .dead, .dead, .dead, .dead, .dead, .dead, .dead, .dead, .dead, .dead, .dead, .dead, .dead, .dead, .dead, .dead, .dead, .dead, .dead, .dead, .dead, .dead, .dead, .dead, .dead, .dead, .dead, .dead, .dead, .dead, .dead, .dead, .dead, .dead, .dead, .dead, .dead, .dead, .dead, .dead, .dead, .dead, .dead, .dead, .dead, .dead, .dead, .dead, .dead, .dead, .dead, .dead, .dead, .dead, .dead, .dead, .dead, .dead, .dead, .dead, .dead, .dead, .dead, .dead, .dead, .dead, .dead, .dead, .dead, .dead, .dead, .dead, .dead, .dead, .dead, .dead, .dead, .dead, .dead, .dead, .dead, .dead, .dead] [] [.box [.str, .bool]] [.i y1, .i y2, .i y3, .i y4, .s y5.1, .b y5.2.1])) (fun (x5 : Int) (x6 : Int) (x7 : Int) (x8 : Int) (x9 : Int) (x10 : ByteArray × Bool × Unit) => draymanref03_Reader_Int_l0_ev draymanref03_Reader_fails n (encSt draymanref03_Reader_Int_l0_t draymanref03_Reader_Int_l0_s draymanref03_Reader_Int_l0_h [.i x5, .i x6, .i x7, .i x8, .i x9, .s x10.1, .b x10.2.1]) k) x5 x6 x7 x8 x9 x10 := by kernel_rfl
    have h2 := congrArg (fun r => draymanref03_Reader_Int_l0_step draymanref03_Reader_fails (fun y1 y2 y3 y4 y5 => k (.exit 0) (encSt [.ref 0 0, .int .i64, .int .i64, .dead, .dead, .dead, .dead, .int .i64, .int .u64, .dead, .dead, .dead, .dead, .dead, .dead, .dead, .dead, .dead, .dead, .dead, .dead, .dead, .dead, .dead, .dead, .dead, .dead, .dead, .dead, .dead, .dead, .dead, .dead, .dead, .dead, .dead, .dead, .dead, .dead, .dead, .dead, .dead, .dead, .dead, .dead, .dead, .dead, .dead, .dead, .dead, .dead, .dead, .dead, .dead, .dead, .dead, .dead, .dead, .dead, .dead, .dead, .dead, .dead, .dead, .dead, .dead, .dead, .dead, .dead, .dead, .dead, .dead, .dead, .dead, .dead, .dead, .dead, .dead, .dead, .dead, .dead, .dead, .dead, .dead, .dead, .dead, .dead, .dead, .dead, .dead, .dead, .dead, .dead, .dead, .dead, .dead, .dead, .dead, .dead, .dead, .dead, .dead, .dead, .dead, .dead, .dead, .dead, .dead, .dead, .dead, .dead, .dead, .dead, .dead, .dead] [] [.box [.str, .bool]] [.i y1, .i y2, .i y3, .i y4, .s y5.1, .b y5.2.1])) r x5 x6 x7 x8 x9 x10) e
    have h3 : draymanref03_Reader_Int_l0_step draymanref03_Reader_fails (fun y1 y2 y3 y4 y5 => k (.exit 0) (encSt [.ref 0 0, .int .i64, .int .i64, .dead, .dead, .dead, .dead, .int .i64, .int .u64, .dead, .dead, .dead, .dead, .dead, .dead, .dead, .dead, .dead, .dead, .dead, .dead, .dead, .dead, .dead, .dead, .dead, .dead, .dead, .dead, .dead, .dead, .dead, .dead, .dead, .dead, .dead, .dead, .dead, .dead, .dead, .dead, .dead, .dead, .dead, .dead, .dead, .dead, .dead, .dead, .dead, .dead, .dead, .dead, .dead, .dead, .dead, .dead, .dead, .dead, .dead, .dead, .dead, .dead, .dead, .dead, .dead, .dead, .dead, .dead, .dead, .dead, .dead, .dead, .dead, .dead, .dead, .dead, .dead, .dead, .dead, .dead, .dead, .dead, .dead, .dead, .dead, .dead, .dead, .dead, .dead, .dead, .dead, .dead, .dead, .dead, .dead, .dead, .dead, .dead, .dead, .dead, .dead, .dead, .dead, .dead, .dead, .dead, .dead, .dead, .dead, .dead, .dead, .dead, .dead, .dead] [] [.box [.str, .bool]] [.i y1, .i y2, .i y3, .i y4, .s y5.1, .b y5.2.1])) (fun (x5 : Int) (x6 : Int) (x7 : Int) (x8 : Int) (x9 : Int) (x10 : ByteArray × Bool × Unit) => draymanref03_Reader_Int_l0_run draymanref03_Reader_fails (fun y1 y2 y3 y4 y5 => k (.exit 0) (encSt [.ref 0 0, .int .i64, .int .i64, .dead, .dead, .dead, .dead, .int .i64, .int .u64, .dead, .dead, .dead, .dead, .dead, .dead, .dead, .dead, .dead, .dead, .dead, .dead, .dead, .dead, .dead, .dead, .dead, .dead, .dead, .dead, .dead, .dead, .dead, .dead, .dead, .dead, .dead, .dead, .dead, .dead, .dead, .dead, .dead, .dead, .dead, .dead, .dead, .dead, .dead, .dead, .dead, .dead, .dead, .dead, .dead, .dead, .dead, .dead, .dead, .dead, .dead, .dead, .dead, .dead, .dead, .dead, .dead, .dead, .dead, .dead, .dead, .dead, .dead, .dead, .dead, .dead, .dead, .dead, .dead, .dead, .dead, .dead, .dead, .dead, .dead, .dead, .dead, .dead, .dead, .dead, .dead, .dead, .dead, .dead, .dead, .dead, .dead, .dead, .dead, .dead, .dead, .dead, .dead, .dead, .dead, .dead, .dead, .dead, .dead, .dead, .dead, .dead, .dead, .dead, .dead, .dead] [] [.box [.str, .bool]] [.i y1, .i y2, .i y3, .i y4, .s y5.1, .b y5.2.1])) n x5 x6 x7 x8 x9 x10) x5 x6 x7 x8 x9 x10 = draymanref03_Reader_Int_l0_run draymanref03_Reader_fails (fun y1 y2 y3 y4 y5 => k (.exit 0) (encSt [.ref 0 0, .int .i64, .int .i64, .dead, .dead, .dead, .dead, .int .i64, .int .u64, .dead, .dead, .dead, .dead, .dead, .dead, .dead, .dead, .dead, .dead, .dead, .dead, .dead, .dead, .dead, .dead, .dead, .dead, .dead, .dead, .dead, .dead, .dead, .dead, .dead, .dead, .dead, .dead, .dead, .dead, .dead, .dead, .dead, .dead, .dead, .dead, .dead, .dead, .dead, .dead, .dead, .dead, .dead, .dead, .dead, .dead, .dead, .dead, .dead, .dead, .dead, .dead, .dead, .dead, .dead, .dead, .dead, .dead, .dead, .dead, .dead, .dead, .dead, .dead, .dead, .dead, .dead, .dead, .dead, .dead, .dead, .dead, .dead, .dead, .dead, .dead, .dead, .dead, .dead, .dead, .dead, .dead, .dead, .dead, .dead, .dead, .dead, .dead, .dead, .dead, .dead, .dead, .dead, .dead, .dead, .dead, .dead, .dead, .dead, .dead, .dead, .dead, .dead, .dead, .dead, .dead] [] [.box [.str, .bool]] [.i y1, .i y2, .i y3, .i y4, .s y5.1, .b y5.2.1])) (n + 1) x5 x6 x7 x8 x9 x10 := by kernel_rfl
    exact h1.trans (h2.trans h3)

theorem draymanref03_Reader_Int_l0_ok {α : Type} (draymanref03_Reader_fails : draymanref03_Reader_fails_T α) : (draymanref03_Reader_Int_l0_spec draymanref03_Reader_fails : LoopSpec α).ok Go.Proofs.Try.prog (envOf (draymanref03_Reader_Int_C draymanref03_Reader_fails) draymanref03_Reader_Int_q draymanref03_Reader_Int_inl 1000 draymanref03_Reader_Int_ann false (draymanref03_Reader_Int_loops draymanref03_Reader_fails) (fun _ => none)) := by
  intro ds k
  have h1 : draymanref03_Reader_Int_l0_ev draymanref03_Reader_fails 1000 (encSt draymanref03_Reader_Int_l0_t draymanref03_Reader_Int_l0_s draymanref03_Reader_Int_l0_h ds) k = draymanref03_Reader_Int_l0_ev draymanref03_Reader_fails 1000 (encSt draymanref03_Reader_Int_l0_t draymanref03_Reader_Int_l0_s draymanref03_Reader_Int_l0_h [.i (hdI ds), .i (hdI ds.tail), .i (hdI ds.tail.tail), .i (hdI ds.tail.tail.tail), .i (hdI ds.tail.tail.tail.tail), .s ((hdS ds.tail.tail.tail.tail.tail, hdB ds.tail.tail.tail.tail.tail.tail, ()).1), .b ((hdS ds.tail.tail.tail.tail.tail, hdB ds.tail.tail.tail.tail.tail.tail, ()).2.1)]) k := by kernel_rfl
  have h2 := draymanref03_Reader_Int_l0_eq draymanref03_Reader_fails 1000 (hdI ds) (hdI ds.tail) (hdI ds.tail.tail) (hdI ds.tail.tail.tail) (hdI ds.tail.tail.tail.tail) (hdS ds.tail.tail.tail.tail.tail, hdB ds.tail.tail.tail.tail.tail.tail, ()) k
  exact h1.trans h2

theorem draymanref03_Reader_Int_ev {α : Type} (draymanref03_Reader_fails : draymanref03_Reader_fails_T α) : EvOk (α := α) Go.Proofs.Try.prog (envOf (draymanref03_Reader_Int_C draymanref03_Reader_fails) draymanref03_Reader_Int_q draymanref03_Reader_Int_inl 1000 draymanref03_Reader_Int_ann false (draymanref03_Reader_Int_loops draymanref03_Reader_fails) (fun _ => none)) 6 (draymanref03_Reader_Int_sp (draymanref03_Reader_Int_g draymanref03_Reader_fails)) := by intro ds k; kernel_rfl

theorem draymanref03_Reader_Int_ok {α : Type} : (draymanref03_Reader_Int_spec : FunSpec α).ok Go.Proofs.Try.prog :=
  FunSpec.ok_of (sp := draymanref03_Reader_Int_spec) (C := draymanref03_Reader_Int_C draymanref03_Reader_fails) (q := draymanref03_Reader_Int_q) (inl := draymanref03_Reader_Int_inl) (N := 1000) (ann := draymanref03_Reader_Int_ann) (fr := false) (D := 6) (l := (draymanref03_Reader_Int_loops draymanref03_Reader_fails)) (hk := (fun _ => none)) (okCons draymanref03_Reader_fails_ok okNil) (lokCons (draymanref03_Reader_Int_l0_ok draymanref03_Reader_fails) lokNil) noHooks (draymanref03_Reader_Int_ev draymanref03_Reader_fails)

end
end Go.Rv.Try

set_option linter.unusedVariables false
set_option maxRecDepth 100000
set_option maxHeartbeats 4000000
namespace Go.Rv.Try
open Go Go.Rv Go.RowKit
noncomputable section

-- (*drayman/draymanref03.Reader).Left

abbrev draymanref03_Reader_Left_T (α : Type) : Type := (ByteArray × Bool × Unit) → (Int → (ByteArray × Bool × Unit) → Option α) → Option α

noncomputable def draymanref03_Reader_Left {α : Type} (x1 : ByteArray × Bool × Unit) (k : Int → (ByteArray × Bool × Unit) → Option α) : Option α :=
  (k (x1.1.size : Int) x1)

noncomputable def draymanref03_Reader_Left_sp {α : Type} (draymanref03_Reader_Left : draymanref03_Reader_Left_T α) : FunSpec α := ⟨50, [.ref 0 0], [.box [.str, .bool]], fun ds k => draymanref03_Reader_Left (hdS ds, hdB ds.tail, ()) (fun r1 r2 => k (enc dep (.int .i64) [.i r1]).1 (encBs [.box [.str, .bool]] [.s r2.1, .b r2.2.1]).1)⟩

noncomputable def draymanref03_Reader_Left_spec {α : Type} : FunSpec α := draymanref03_Reader_Left_sp draymanref03_Reader_Left

noncomputable def draymanref03_Reader_Left_C {α : Type} : List (FunSpec α) := []

noncomputable def draymanref03_Reader_Left_q : FuncId → Bool := fun f => false

noncomputable def draymanref03_Reader_Left_inl : FuncId → Bool := fun f => false

noncomputable def draymanref03_Reader_Left_ann : FuncId → AnnT := fun f p => ⟨[], [], [], [], 0, [], []⟩

noncomputable def draymanref03_Reader_Left_loops {α : Type} : List (LoopSpec α) := []

theorem draymanref03_Reader_Left_ev {α : Type} : EvOk (α := α) Go.Proofs.Try.prog (envOf (draymanref03_Reader_Left_C) draymanref03_Reader_Left_q draymanref03_Reader_Left_inl 1000 draymanref03_Reader_Left_ann false (draymanref03_Reader_Left_loops) (fun _ => none)) 6 (draymanref03_Reader_Left_sp (draymanref03_Reader_Left)) := by intro ds k; kernel_rfl

theorem draymanref03_Reader_Left_ok {α : Type} : (draymanref03_Reader_Left_spec : FunSpec α).ok Go.Proofs.Try.prog :=
  FunSpec.ok_of (sp := draymanref03_Reader_Left_spec) (C := draymanref03_Reader_Left_C) (q := draymanref03_Reader_Left_q) (inl := draymanref03_Reader_Left_inl) (N := 1000) (ann := draymanref03_Reader_Left_ann) (fr := false) (D := 6) (l := (draymanref03_Reader_Left_loops)) (hk := (fun _ => none)) okNil lokNil noHooks (draymanref03_Reader_Left_ev)

end
end Go.Rv.Try

set_option linter.unusedVariables false
set_option maxRecDepth 100000
set_option maxHeartbeats 4000000
namespace Go.Rv.Try
open Go Go.Rv Go.RowKit
noncomputable section

-- (*drayman/draymanref03.Reader).Done

abbrev draymanref03_Reader_Done_T (α : Type) : Type := (ByteArray × Bool × Unit) → (Bool → (ByteArray × Bool × Unit) → Option α) → Option α

noncomputable def draymanref03_Reader_Done {α : Type} (x1 : ByteArray × Bool × Unit) (k : Bool → (ByteArray × Bool × Unit) → Option α) : Option α :=
  (cond (!x1.2.1)
    (k ((x1.1.size : Int) == 0) x1)
    (k false x1))

noncomputable def draymanref03_Reader_Done_sp {α : Type} (draymanref03_Reader_Done : draymanref03_Reader_Done_T α) : FunSpec α := ⟨52, [.ref 0 0], [.box [.str, .bool]], fun ds k => draymanref03_Reader_Done (hdS ds, hdB ds.tail, ()) (fun r1 r2 => k (enc dep (.bool) [.b r1]).1 (encBs [.box [.str, .bool]] [.s r2.1, .b r2.2.1]).1)⟩

noncomputable def draymanref03_Reader_Done_spec {α : Type} : FunSpec α := draymanref03_Reader_Done_sp draymanref03_Reader_Done

noncomputable def draymanref03_Reader_Done_C {α : Type} : List (FunSpec α) := []

noncomputable def draymanref03_Reader_Done_q : FuncId → Bool := fun f => false

noncomputable def draymanref03_Reader_Done_inl : FuncId → Bool := fun f => false

noncomputable def draymanref03_Reader_Done_ann : FuncId → AnnT := fun f p => ⟨[], [], [], [], 0, [], []⟩

noncomputable def draymanref03_Reader_Done_loops {α : Type} : List (LoopSpec α) := []

theorem draymanref03_Reader_Done_ev {α : Type} : EvOk (α := α) Go.Proofs.Try.prog (envOf (draymanref03_Reader_Done_C) draymanref03_Reader_Done_q draymanref03_Reader_Done_inl 1000 draymanref03_Reader_Done_ann false (draymanref03_Reader_Done_loops) (fun _ => none)) 6 (draymanref03_Reader_Done_sp (draymanref03_Reader_Done)) := by intro ds k; kernel_rfl

theorem draymanref03_Reader_Done_ok {α : Type} : (draymanref03_Reader_Done_spec : FunSpec α).ok Go.Proofs.Try.prog :=
  FunSpec.ok_of (sp := draymanref03_Reader_Done_spec) (C := draymanref03_Reader_Done_C) (q := draymanref03_Reader_Done_q) (inl := draymanref03_Reader_Done_inl) (N := 1000) (ann := draymanref03_Reader_Done_ann) (fr := false) (D := 6) (l := (draymanref03_Reader_Done_loops)) (hk := (fun _ => none)) okNil lokNil noHooks (draymanref03_Reader_Done_ev)

end
end Go.Rv.Try

set_option linter.unusedVariables false
set_option maxRecDepth 100000
set_option maxHeartbeats 4000000
namespace Go.Rv.Try
open Go Go.Rv Go.RowKit
noncomputable section

-- (*drayman/draymanref03.Reader).Flag

abbrev draymanref03_Reader_Flag_T (α : Type) : Type := (ByteArray × Bool × Unit) → (Bool → (ByteArray × Bool × Unit) → Option α) → Option α

noncomputable def draymanref03_Reader_Flag_g {α : Type} (draymanref03_Reader_fails : draymanref03_Reader_fails_T α) (x1 : ByteArray × Bool × Unit) (k : Bool → (ByteArray × Bool × Unit) → Option α) : Option α :=
  (cond (!x1.2.1)
    (cond (!((x1.1.size : Int) == 0))
      (cond (decide ((0 : Int) < (x1.1.size : Int)))
        (cond (decide ((byteAt x1.1 0) > 1))
          (draymanref03_Reader_fails x1 fun r2 =>
            (k false r2))
          (cond (decide ((0 : Int) < (x1.1.size : Int)))
            (cond (decide ((1 : Int) ≤ (x1.1.size : Int)))
              (k ((byteAt x1.1 0) == 1) ((x1.1.extract 1 x1.1.size), x1.2.1, ()))
              none)
            none))
        none)
      (draymanref03_Reader_fails x1 fun r3 =>
        (k false r3)))
    (draymanref03_Reader_fails x1 fun r4 =>
      (k false r4)))

noncomputable def draymanref03_Reader_Flag {α : Type} : draymanref03_Reader_Flag_T α := draymanref03_Reader_Flag_g draymanref03_Reader_fails

noncomputable def draymanref03_Reader_Flag_sp {α : Type} (draymanref03_Reader_Flag : draymanref03_Reader_Flag_T α) : FunSpec α := ⟨44, [.ref 0 0], [.box [.str, .bool]], fun ds k => draymanref03_Reader_Flag (hdS ds, hdB ds.tail, ()) (fun r1 r2 => k (enc dep (.bool) [.b r1]).1 (encBs [.box [.str, .bool]] [.s r2.1, .b r2.2.1]).1)⟩

noncomputable def draymanref03_Reader_Flag_spec {α : Type} : FunSpec α := draymanref03_Reader_Flag_sp draymanref03_Reader_Flag

noncomputable def draymanref03_Reader_Flag_C {α : Type} (draymanref03_Reader_fails : draymanref03_Reader_fails_T α) : List (FunSpec α) := [draymanref03_Reader_fails_sp draymanref03_Reader_fails]

noncomputable def draymanref03_Reader_Flag_q : FuncId → Bool := fun f => Nat.beq f 81

noncomputable def draymanref03_Reader_Flag_inl : FuncId → Bool := fun f => false

noncomputable def draymanref03_Reader_Flag_ann : FuncId → AnnT := fun f p => ⟨[], [], [], [], 0, [], []⟩

noncomputable def draymanref03_Reader_Flag_loops {α : Type} (draymanref03_Reader_fails : draymanref03_Reader_fails_T α) : List (LoopSpec α) := []

theorem draymanref03_Reader_Flag_ev {α : Type} (draymanref03_Reader_fails : draymanref03_Reader_fails_T α) : EvOk (α := α) Go.Proofs.Try.prog (envOf (draymanref03_Reader_Flag_C draymanref03_Reader_fails) draymanref03_Reader_Flag_q draymanref03_Reader_Flag_inl 1000 draymanref03_Reader_Flag_ann false (draymanref03_Reader_Flag_loops draymanref03_Reader_fails) (fun _ => none)) 6 (draymanref03_Reader_Flag_sp (draymanref03_Reader_Flag_g draymanref03_Reader_fails)) := by intro ds k; kernel_rfl

theorem draymanref03_Reader_Flag_ok {α : Type} : (draymanref03_Reader_Flag_spec : FunSpec α).ok Go.Proofs.Try.prog :=
  FunSpec.ok_of (sp := draymanref03_Reader_Flag_spec) (C := draymanref03_Reader_Flag_C draymanref03_Reader_fails) (q := draymanref03_Reader_Flag_q) (inl := draymanref03_Reader_Flag_inl) (N := 1000) (ann := draymanref03_Reader_Flag_ann) (fr := false) (D := 6) (l := (draymanref03_Reader_Flag_loops draymanref03_Reader_fails)) (hk := (fun _ => none)) (okCons draymanref03_Reader_fails_ok okNil) lokNil noHooks (draymanref03_Reader_Flag_ev draymanref03_Reader_fails)

end
end Go.Rv.Try

set_option linter.unusedVariables false
set_option maxRecDepth 100000
set_option maxHeartbeats 4000000
namespace Go.Rv.Try
open Go Go.Rv Go.RowKit
noncomputable section

-- (*drayman/draymanref03.Reader).Text

abbrev draymanref03_Reader_Text_T (α : Type) : Type := Int → (ByteArray × Bool × Unit) → (ByteArray → (ByteArray × Bool × Unit) → Option α) → Option α

noncomputable def draymanref03_Reader_Text_g {α : Type} (draymanref03_Reader_Int : draymanref03_Reader_Int_T α) (draymanref03_Reader_fails : draymanref03_Reader_fails_T α) (most1 : Int) (x2 : ByteArray × Bool × Unit) (k : ByteArray → (ByteArray × Bool × Unit) → Option α) : Option α :=
  (draymanref03_Reader_Int 0 most1 x2 fun r3 r4 =>
    (cond (decide (r3 > (r4.1.size : Int)))
      (draymanref03_Reader_fails r4 fun r5 =>
        (k (⟨#[]⟩ : ByteArray) r5))
      (cond ((decide ((0 : Int) ≤ r3)) && (decide (r3 ≤ (r4.1.size : Int))))
        (cond ((decide ((0 : Int) ≤ r3)) && (decide (r3 ≤ (r4.1.size : Int))))
          (k (r4.1.extract 0 r3.toNat) ((r4.1.extract r3.toNat r4.1.size), r4.2.1, ()))
          none)
        none)))

noncomputable def draymanref03_Reader_Text {α : Type} : draymanref03_Reader_Text_T α := draymanref03_Reader_Text_g draymanref03_Reader_Int draymanref03_Reader_fails

noncomputable def draymanref03_Reader_Text_sp {α : Type} (draymanref03_Reader_Text : draymanref03_Reader_Text_T α) : FunSpec α := ⟨46, [.ref 0 0, .int .i64], [.box [.str, .bool]], fun ds k => draymanref03_Reader_Text (hdI ds) (hdS ds.tail, hdB ds.tail.tail, ()) (fun r1 r2 => k (enc dep (.str) [.s r1]).1 (encBs [.box [.str, .bool]] [.s r2.1, .b r2.2.1]).1)⟩

noncomputable def draymanref03_Reader_Text_spec {α : Type} : FunSpec α := draymanref03_Reader_Text_sp draymanref03_Reader_Text

noncomputable def draymanref03_Reader_Text_C {α : Type} (draymanref03_Reader_Int : draymanref03_Reader_Int_T α) (draymanref03_Reader_fails : draymanref03_Reader_fails_T α) : List (FunSpec α) := [draymanref03_Reader_Int_sp draymanref03_Reader_Int, draymanref03_Reader_fails_sp draymanref03_Reader_fails]

noncomputable def draymanref03_Reader_Text_q : FuncId → Bool := fun f => Nat.beq f 42 || Nat.beq f 81

noncomputable def draymanref03_Reader_Text_inl : FuncId → Bool := fun f => false

noncomputable def draymanref03_Reader_Text_ann : FuncId → AnnT := fun f p => ⟨[], [], [], [], 0, [], []⟩

noncomputable def draymanref03_Reader_Text_loops {α : Type} (draymanref03_Reader_Int : draymanref03_Reader_Int_T α) (draymanref03_Reader_fails : draymanref03_Reader_fails_T α) : List (LoopSpec α) := []

theorem draymanref03_Reader_Text_ev {α : Type} (draymanref03_Reader_Int : draymanref03_Reader_Int_T α) (draymanref03_Reader_fails : draymanref03_Reader_fails_T α) : EvOk (α := α) Go.Proofs.Try.prog (envOf (draymanref03_Reader_Text_C draymanref03_Reader_Int draymanref03_Reader_fails) draymanref03_Reader_Text_q draymanref03_Reader_Text_inl 1000 draymanref03_Reader_Text_ann false (draymanref03_Reader_Text_loops draymanref03_Reader_Int draymanref03_Reader_fails) (fun _ => none)) 6 (draymanref03_Reader_Text_sp (draymanref03_Reader_Text_g draymanref03_Reader_Int draymanref03_Reader_fails)) := by intro ds k; kernel_rfl

theorem draymanref03_Reader_Text_ok {α : Type} : (draymanref03_Reader_Text_spec : FunSpec α).ok Go.Proofs.Try.prog :=
  FunSpec.ok_of (sp := draymanref03_Reader_Text_spec) (C := draymanref03_Reader_Text_C draymanref03_Reader_Int draymanref03_Reader_fails) (q := draymanref03_Reader_Text_q) (inl := draymanref03_Reader_Text_inl) (N := 1000) (ann := draymanref03_Reader_Text_ann) (fr := false) (D := 6) (l := (draymanref03_Reader_Text_loops draymanref03_Reader_Int draymanref03_Reader_fails)) (hk := (fun _ => none)) (okCons draymanref03_Reader_Int_ok (okCons draymanref03_Reader_fails_ok okNil)) lokNil noHooks (draymanref03_Reader_Text_ev draymanref03_Reader_Int draymanref03_Reader_fails)

end
end Go.Rv.Try

set_option linter.unusedVariables false
set_option maxRecDepth 100000
set_option maxHeartbeats 4000000
namespace Go.Rv.Try
open Go Go.Rv Go.RowKit
noncomputable section

-- (*drayman/wire.Reader).List

abbrev wire_Reader_List_T (α : Type) : Type := Int → (ByteArray × Bool × Unit) → (Int → (ByteArray × Bool × Unit) → Option α) → Option α

noncomputable def wire_Reader_List_g {α : Type} (wire_Reader_Int : wire_Reader_Int_T α) (most1 : Int) (x2 : ByteArray × Bool × Unit) (k : Int → (ByteArray × Bool × Unit) → Option α) : Option α :=
  (wire_Reader_Int 0 most1 x2 fun r3 r4 =>
    (cond (!(!r4.2.1))
      (cond (!(!r4.2.1))
        (cond (!(!r4.2.1))
          (cond (!(decide (r3 ≤ (r4.1.size : Int))))
            (k 0 ((⟨#[]⟩ : ByteArray), false, ()))
            (cond (!r4.2.1)
              (k 0 r4)
              (k r3 r4)))
          (k 0 ((⟨#[]⟩ : ByteArray), false, ())))
        (k 0 r4))
      (k 0 ((⟨#[]⟩ : ByteArray), false, ()))))

noncomputable def wire_Reader_List {α : Type} : wire_Reader_List_T α := wire_Reader_List_g wire_Reader_Int

noncomputable def wire_Reader_List_sp {α : Type} (wire_Reader_List : wire_Reader_List_T α) : FunSpec α := ⟨47, [.ref 0 0, .int .i64], [.box [.str, .bool]], fun ds k => wire_Reader_List (hdI ds) (hdS ds.tail, hdB ds.tail.tail, ()) (fun r1 r2 => k (enc dep (.int .i64) [.i r1]).1 (encBs [.box [.str, .bool]] [.s r2.1, .b r2.2.1]).1)⟩

noncomputable def wire_Reader_List_spec {α : Type} : FunSpec α := wire_Reader_List_sp wire_Reader_List

noncomputable def wire_Reader_List_C {α : Type} (wire_Reader_Int : wire_Reader_Int_T α) : List (FunSpec α) := [wire_Reader_Int_sp wire_Reader_Int]

noncomputable def wire_Reader_List_q : FuncId → Bool := fun f => Nat.beq f 41

noncomputable def wire_Reader_List_inl : FuncId → Bool := fun f => Nat.beq f 78

noncomputable def wire_Reader_List_ann : FuncId → AnnT := fun f p => ⟨[], [], [], [], 0, [], []⟩

noncomputable def wire_Reader_List_loops {α : Type} (wire_Reader_Int : wire_Reader_Int_T α) : List (LoopSpec α) := []

theorem wire_Reader_List_ev {α : Type} (wire_Reader_Int : wire_Reader_Int_T α) : EvOk (α := α) Go.Proofs.Try.prog (envOf (wire_Reader_List_C wire_Reader_Int) wire_Reader_List_q wire_Reader_List_inl 1000 wire_Reader_List_ann false (wire_Reader_List_loops wire_Reader_Int) (fun _ => none)) 6 (wire_Reader_List_sp (wire_Reader_List_g wire_Reader_Int)) := by intro ds k; kernel_rfl

theorem wire_Reader_List_ok {α : Type} : (wire_Reader_List_spec : FunSpec α).ok Go.Proofs.Try.prog :=
  FunSpec.ok_of (sp := wire_Reader_List_spec) (C := wire_Reader_List_C wire_Reader_Int) (q := wire_Reader_List_q) (inl := wire_Reader_List_inl) (N := 1000) (ann := wire_Reader_List_ann) (fr := false) (D := 6) (l := (wire_Reader_List_loops wire_Reader_Int)) (hk := (fun _ => none)) (okCons wire_Reader_Int_ok okNil) lokNil noHooks (wire_Reader_List_ev wire_Reader_Int)

end
end Go.Rv.Try
