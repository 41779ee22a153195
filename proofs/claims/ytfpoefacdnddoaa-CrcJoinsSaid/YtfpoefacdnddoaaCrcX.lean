/- The walk of examples and of the law CrcJoins: they return true. -/
import Derived.Test.YtfpoefacdnddoaaCrcJ
import Derived.Deep.Quiet
namespace Go.Proofs.Ytfpoefacdnddoaa
open Go.RowKit

theorem below_alloc (B : Nat) (w w' : World) (o : Obj) (h : Below B w w') (hB : B ≤ w.heap.size) : Below B w (w'.alloc o) := h.alloc (Nat.le_trans hB h.size) o

set_option maxRecDepth 100000 in
set_option maxHeartbeats 400000 in
theorem examples_any (w : World) :
    Calls Try.prog 5 #[] w fun e w' => e = .returned (.bool true) ∧ Below w.heap.size w w' := by
  have e1 : (Crc.sum [49, 50, 51, 52, 53, 54, 55, 56, 57] : Nat) = 3421780262 := Crc.sum_digits
  have e2 : Crc.more (Crc.sum [49, 50, 51, 52]) [53, 54, 55, 56, 57] = 3421780262 := by rw [← Crc.sum_append_more]; exact e1
  have H1 := Lib.hid e1; clear e1
  have H2 := Lib.hid e2; clear e2
  have s1 := sum_any ⟨#[49, 50, 51, 52, 53, 54, 55, 56, 57]⟩ (by decide)
  have s2 := sum_any ⟨#[49, 50, 51, 52]⟩ (by decide)
  have s3 := more_any (Crc.sum [49, 50, 51, 52]) (Crc.sum_lt _) ⟨#[53, 54, 55, 56, 57]⟩ (by decide)
  simp only [H1.out, H2.out] at s1 s3
  have S1 := Lib.hid s1; clear s1
  have S2 := Lib.hid s2; clear s2
  have S3 := Lib.hid s3; clear s3
  go_enter Try.func5, Try.ntmps5
  go_wp2_with fail
  refine (S1.out _).mono ?_
  rintro e w' ⟨rfl, rfl⟩
  go_wp2_with fail
  refine (S2.out _).mono ?_
  rintro e w' ⟨rfl, rfl⟩
  go_wp2_with fail
  refine (S3.out _).mono ?_
  rintro e w' ⟨rfl, rfl⟩
  go_wp2
  go_ret
  exact ⟨rfl, (((Below.refl _ _).alloc (by simp) _).alloc (by simp) _).alloc (by simp; omega) _⟩

theorem sum_app (x y : ByteArray) : Crc.sum (x ++ y).data.toList = Crc.more (Crc.sum x.data.toList) y.data.toList := by
  rw [← Crc.sum_append_more]; simp
theorem join_eq (x y : ByteArray) : Crc.join (Crc.sum x.data.toList) (Crc.sum y.data.toList) y.size = Crc.more (Crc.sum x.data.toList) y.data.toList := by
  rw [← Crc.sum_append_more, Crc.sum_append_join]; simp
theorem cut_cases (s : ByteArray) (k : Nat) : s.size ≤ k ∨ (k < s.size ∧ ∃ x, s.extract 0 k = x ∧ x.size ≤ k) := by
  by_cases h : s.size ≤ k
  · exact .inl h
  · exact .inr ⟨by omega, _, rfl, by simp; omega⟩

set_option maxRecDepth 100000 in
set_option maxHeartbeats 1000000 in
theorem joins_any (s t : ByteArray) (hs : s.size ≤ maxLen) (ht : t.size ≤ maxLen) (w : World) :
    Calls Try.prog 4 #[.string s, .string t] w fun e w' => e = .returned (.bool true) ∧ Below w.heap.size w w' := by
  unfold maxLen at hs ht
  rcases cut_cases s 1000 with hs1 | ⟨hs1, x, hx, hxs⟩ <;> rcases cut_cases t 1000 with ht1 | ⟨ht1, y, hy, hys⟩
  all_goals
    go_enter Try.func4, Try.ntmps4
    go_wp2_with fail
    refine (examples_any _).mono ?_
    rintro e w1 ⟨rfl, hb⟩
    have hbs := hb.size
    go_wp2_with fail
    refine (sum_any _ (by simp [maxLen]; omega) _).mono ?_
    rintro e w2 ⟨rfl, rfl⟩
    rw [sum_app]
    go_wp2_with fail
    refine (sum_any _ (by simp [maxLen]; omega) _).mono ?_
    rintro e w2 ⟨rfl, rfl⟩
    go_wp2_with fail
    refine (more_any _ (Crc.sum_lt _) _ (by simp [maxLen]; omega) _).mono ?_
    rintro e w2 ⟨rfl, rfl⟩
    go_wp2_with fail
    refine (sum_any _ (by simp [maxLen]; omega) _).mono ?_
    rintro e w2 ⟨rfl, rfl⟩
    go_wp2_with fail
    refine (sum_any _ (by simp [maxLen]; omega) _).mono ?_
    rintro e w2 ⟨rfl, rfl⟩
    go_wp2_with fail
    refine (join_any _ _ _ (Crc.sum_lt _) (Crc.sum_lt _) (by omega) _).mono ?_
    rintro e w2 ⟨rfl, rfl⟩
    rw [join_eq]
    go_wp2_with fail
    refine (sum_any _ (by simp [maxLen]; omega) _).mono ?_
    rintro e w2 ⟨rfl, rfl⟩
    go_wp2_with fail
    refine (join_any _ 0 0 (Crc.sum_lt _) (by omega) (by omega) _).mono ?_
    rintro e w2 ⟨rfl, rfl⟩
    rw [Crc.join_zero]
    go_wp2_with fail
    refine (sum_any _ (by simp [maxLen]; omega) _).mono ?_
    rintro e w2 ⟨rfl, rfl⟩
    go_wp2_with fail
    refine (sum_any _ (by decide) _).mono ?_
    rintro e w2 ⟨rfl, rfl⟩
    rw [show Crc.sum (ByteArray.mk #[]).data.toList = 0 from Crc.sum_nil]
    go_wp2
    go_ret
    refine ⟨rfl, ?_⟩
    repeat (first | exact hb | refine Below.alloc ?_ (by first | exact hbs | (simp; omega)) _)
end Go.Proofs.Ytfpoefacdnddoaa
