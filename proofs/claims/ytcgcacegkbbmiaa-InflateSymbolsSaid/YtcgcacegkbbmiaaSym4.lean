/- The law InflateSymbols, walked. -/
import Derived.Test.YtcgcacegkbbmiaaEx
namespace Go.Proofs.Ytcgcacegkbbmiaa
open Go.RowKit

set_option maxRecDepth 100000 in
set_option maxHeartbeats 1000000 in
theorem symbols_any (n : Int) (w : World) : Calls Try.prog 4 #[.int .i64 n] w fun e w' => e = .returned (.bool true) ∧ Below w.heap.size w w' := by
  go_enter Try.func4, Try.ntmps4
  go_wp2_with fail
  refine (ex_any w).mono ?_
  rintro e w1 ⟨rfl, b1⟩
  have b1 := Lib.hid b1
  have h1 := length_any n w1
  have h2 := rlength_any n w1
  have h3 := dist_any n w1
  have h4 := rdist_any n w1
  generalize lengthP n = A at h1 h2
  generalize distP n = B at h3 h4
  have H1 := Lib.hid h1; clear h1
  have H2 := Lib.hid h2; clear h2
  have H3 := Lib.hid h3; clear h3
  have H4 := Lib.hid h4; clear h4
  have ea : ((A.1 : Int) == (A.1 : Int)) = true := by simp
  have eb : ((A.2.1 : Int) == (A.2.1 : Int)) = true := by simp
  have ec : (A.2.2 == A.2.2) = true := by simp
  have ed : ((B.1 : Int) == (B.1 : Int)) = true := by simp
  have ee : ((B.2.1 : Int) == (B.2.1 : Int)) = true := by simp
  have ef : (B.2.2 == B.2.2) = true := by simp
  go_wp2_with fail
  refine H1.out.mono ?_
  rintro e w2 ⟨rfl, rfl⟩
  go_wp2_with fail
  refine H2.out.mono ?_
  rintro e w2 ⟨rfl, rfl⟩
  go_wp2_with fail
  refine H3.out.mono ?_
  rintro e w2 ⟨rfl, rfl⟩
  go_wp2_with fail
  refine H4.out.mono ?_
  rintro e w2 ⟨rfl, rfl⟩
  go_wp2
  go_ret
  exact ⟨rfl, b1.out⟩
end Go.Proofs.Ytcgcacegkbbmiaa
