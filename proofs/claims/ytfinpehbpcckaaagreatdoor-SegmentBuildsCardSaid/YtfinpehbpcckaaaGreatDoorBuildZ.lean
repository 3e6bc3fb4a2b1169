/- Layer 34: the contract of Build, joined (printed by gen_buildTwo.py). -/
import Derived.Test.YtfinpehbpcckaaaGreatDoorBuildTwo
import Derived.Test.YtfinpehbpcckaaaGreatDoorBuildA
namespace Go.Proofs.YtfinpehbpcckaaaGreatDoor
open Go.RowKit

theorem seg_build (A : Option Addr) (n c : Nat) (es : List Ent) (w : World) (h : Ents w w.heap.size A n es) (hf : EntsFew es) (ht : Tables w) :
    Calls Tryz.prog 11 #[.slice A n c] w (BuildPost w (usedE es)) := seg_build_of build_two A n c es w h hf ht
end Go.Proofs.YtfinpehbpcckaaaGreatDoor
