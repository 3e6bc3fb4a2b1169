/- Layer 37: the law QueryReads, its head joined. -/
import Derived.Test.YtomcdhmcjndioaaGreatDoorQSml
import Derived.Test.YtomcdhmcjndioaaGreatDoorQReads
namespace Go.Proofs.YtomcdhmcjndioaaGreatDoor
open Go.RowKit
set_option linter.unusedVariables false

theorem qreads_all (s : List UInt8) (w : World) (hs : s.length ≤ 9223372036854775807) (ht : QTabs w) (hp : PowTab w) : Calls Tryz.prog 3 #[.string (ba s)] w (SmlPost w) :=
  (qreads_any s w hs ht ((qsmall_true w ht hp).mono fun _ _ h => h)).mono fun _ _ h => h
end Go.Proofs.YtomcdhmcjndioaaGreatDoor
