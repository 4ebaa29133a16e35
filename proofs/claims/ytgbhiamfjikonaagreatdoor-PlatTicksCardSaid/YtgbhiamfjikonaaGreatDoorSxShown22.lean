/- SX: a part of the proof of this claim; it stands under the statement's own conditions alone. -/
import Derived.Test.YtgbhiamfjikonaaGreatDoorSxSeat22
set_option maxRecDepth 100000
namespace Go.Proofs.YtgbhiamfjikonaaGreatDoor
open Go Go.SX Go.Proofs
def mShown : Memo Empty := ⟨7, [], .bool false true, []⟩
set_option maxHeartbeats 4000000 in
theorem shown_ok : mShown.ok Tryz.prog SN := Memo.ok_of cfgA_ok 1000 (m := mShown) (by kernel_rfl)
end Go.Proofs.YtgbhiamfjikonaaGreatDoor
