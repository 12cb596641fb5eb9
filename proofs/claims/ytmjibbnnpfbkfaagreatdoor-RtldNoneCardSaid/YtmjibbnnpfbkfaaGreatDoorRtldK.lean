/- calls on the road of the law, each computed apart by the evaluator: what each answers, and what lies in memory behind it. No condition. -/
import Derived.Test.YtmjibbnnpfbkfaaGreatDoorRtld0
import Derived.Test.YtmjibbnnpfbkfaaGreatDoorRtld1
import Derived.Test.YtmjibbnnpfbkfaaGreatDoorRtld2
import Derived.Test.YtmjibbnnpfbkfaaGreatDoorRtld3
import Derived.Test.YtmjibbnnpfbkfaaGreatDoorRtld4
import Derived.Test.YtmjibbnnpfbkfaaGreatDoorRtld5
import Derived.Test.YtmjibbnnpfbkfaaGreatDoorRtld6
import Derived.Test.YtmjibbnnpfbkfaaGreatDoorRtld7
import Derived.Test.YtmjibbnnpfbkfaaGreatDoorRtld8
set_option maxRecDepth 1000000
namespace Go.Proofs.YtmjibbnnpfbkfaaGreatDoor
open Go.Tb
def rt_midKnown : List Fact := [rt12, rt13, rt23]
theorem rt_midKnown_ok : ∀ x ∈ rt_midKnown, x.Ok P G := (knows rt12_ok (knows rt13_ok (knows rt23_ok knowsNone)))
def rt_negKnown : List Fact := [rt12, rt13]
theorem rt_negKnown_ok : ∀ x ∈ rt_negKnown, x.Ok P G := (knows rt12_ok (knows rt13_ok knowsNone))
def rt_q0Known : List Fact := [rt12, rt13, rt24]
theorem rt_q0Known_ok : ∀ x ∈ rt_q0Known, x.Ok P G := (knows rt12_ok (knows rt13_ok (knows rt24_ok knowsNone)))
def rt_q1Known : List Fact := [rt12, rt13, rt26]
theorem rt_q1Known_ok : ∀ x ∈ rt_q1Known, x.Ok P G := (knows rt12_ok (knows rt13_ok (knows rt26_ok knowsNone)))
def rt_q2Known : List Fact := [rt12, rt13, rt28]
theorem rt_q2Known_ok : ∀ x ∈ rt_q2Known, x.Ok P G := (knows rt12_ok (knows rt13_ok (knows rt28_ok knowsNone)))
def rt_q3Known : List Fact := [rt12, rt13, rt30]
theorem rt_q3Known_ok : ∀ x ∈ rt_q3Known, x.Ok P G := (knows rt12_ok (knows rt13_ok (knows rt30_ok knowsNone)))
def rt_bigKnown : List Fact := [rt12, rt13]
theorem rt_bigKnown_ok : ∀ x ∈ rt_bigKnown, x.Ok P G := (knows rt12_ok (knows rt13_ok knowsNone))
end Go.Proofs.YtmjibbnnpfbkfaaGreatDoor
