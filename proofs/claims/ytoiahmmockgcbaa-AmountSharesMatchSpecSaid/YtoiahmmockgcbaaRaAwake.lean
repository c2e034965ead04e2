import Derived.Test.YtoiahmmockgcbaaRaEq
/- The package does one simple thing right. -/
namespace Go.Proofs.Ytoiahmmockgcbaa.Eq
open Go Go.Ra
theorem awake_at (k : Nat) : interchangelaw1_awake (k + 40) = some true := by kernel_rfl
theorem ev_awake : Ev (fun k => interchangelaw1_awake k) true := .off (n := 40) awake_at
end Go.Proofs.Ytoiahmmockgcbaa.Eq
