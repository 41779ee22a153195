/- What the chapter's examples do, and the two laws of lengths and distances. -/
import Derived.Test.YtcgcacegkbbmiaaOpenW
namespace Go.Proofs.Ytcgcacegkbbmiaa
open Go.RowKit

theorem openV_ex1 : openV ⟨#[3, 0]⟩ 0 = ([], 2, 0) := by decide +kernel
theorem openV_ex2 : openV ⟨#[1, 2, 0, 253, 255, 97, 98]⟩ 2 = ([97, 98], 7, 0) := by decide +kernel
theorem openV_ex3 : openV ⟨#[7]⟩ 9 = ([], 0, 2) := by decide +kernel

set_option maxRecDepth 100000 in
set_option maxHeartbeats 1000000 in
theorem ex_any (w : World) : Calls Try.prog 9 #[] w fun e w' => e = .returned (.bool true) ∧ Below w.heap.size w w' := by
  have h1 := open_any (s := ⟨#[3, 0]⟩) 0 (by decide) w
  rw [openV_ex1] at h1
  have H1 := Lib.hid h1; clear h1
  go_enter Try.func9, Try.ntmps9
  go_wp2_with fail
  refine H1.out.mono ?_
  rintro e w1 ⟨rfl, b1⟩
  have b1 := Lib.hid b1
  have h2 := open_any (s := ⟨#[1, 2, 0, 253, 255, 97, 98]⟩) 2 (by decide) w1
  rw [openV_ex2] at h2
  have H2 := Lib.hid h2; clear h2
  go_wp2_with fail
  refine H2.out.mono ?_
  rintro e w2 ⟨rfl, b2⟩
  have b2 := Lib.hid b2
  have h3 := open_any (s := ⟨#[7]⟩) 9 (by decide) w2
  rw [openV_ex3] at h3
  have H3 := Lib.hid h3; clear h3
  go_wp2_with fail
  refine H3.out.mono ?_
  rintro e w3 ⟨rfl, b3⟩
  have b3 := Lib.hid b3
  have e1 : ((⟨#[]⟩ : ByteArray) == ⟨#[]⟩) = true := by decide
  have e2 : ((⟨#[97, 98]⟩ : ByteArray) == ⟨#[97, 98]⟩) = true := by decide
  go_wp2
  go_ret
  have s1 := b1.out.size
  have s2 := b2.out.size
  exact ⟨rfl, b1.out.trans ((b2.out.mono s1).trans (b3.out.mono (by omega)))⟩
end Go.Proofs.Ytcgcacegkbbmiaa
