/- The law InflateOpens, walked. -/
import Derived.Test.YtcgcacegkbbmiaaROpen
namespace Go.Proofs.Ytcgcacegkbbmiaa
open Go.RowKit

set_option maxRecDepth 100000 in
set_option maxHeartbeats 2000000 in
theorem opens_any (s : ByteArray) (k : Int) (hs : s.size ≤ 140737488355328) (w : World) : Calls Try.prog 3 #[.string s, .int .i64 k] w fun e w' => e = .returned (.bool true) ∧ Below w.heap.size w w' := by
  have hcs : ¬ 3000 < k ∨ (3000 < k ∧ k ≤ 1048576) ∨ (3000 < k ∧ ¬ k ≤ 1048576) := by omega
  obtain ⟨m, hm⟩ : ∃ m : Int, m = if 3000 < k ∧ k ≤ 1048576 then 3000 else k := ⟨_, rfl⟩
  have HA := Lib.hid (fun w => open_any (s := s) m (by omega) w)
  have HB := Lib.hid (fun w => ropen_any (s := s) m (by omega) w)
  obtain ⟨V, hV⟩ : ∃ V, V = openV s m := ⟨_, rfl⟩
  rw [← hV] at HA HB
  obtain ⟨L, n, er⟩ := V
  have HV := Lib.hid hV; clear hV
  go_enter Try.func3, Try.ntmps3
  go_wp2_with fail
  refine (ex_any w).mono ?_
  rintro e w1 ⟨rfl, b1⟩
  have b1 := Lib.hid b1
  rcases hcs with h1 | ⟨h1, h2⟩ | ⟨h1, h2⟩
  case' inl =>
    have hd1 : decide ((3000 : Int) < k) = false := by simp; omega
    obtain rfl : m = k := by rw [hm, if_neg (by omega)]
  case' inr.inl =>
    have hd1 : decide ((3000 : Int) < k) = true := by simp; omega
    have hd2 : decide (k ≤ (1048576 : Int)) = true := by simp; omega
    obtain rfl : m = 3000 := by rw [hm, if_pos (by omega)]
  case' inr.inr =>
    have hd1 : decide ((3000 : Int) < k) = true := by simp; omega
    have hd2 : decide (k ≤ (1048576 : Int)) = false := by simp; omega
    obtain rfl : m = k := by rw [hm, if_neg (by omega)]
  all_goals
    clear hm
    go_wp2_with fail
    refine (HA.out _).mono ?_
    rintro e w2 ⟨rfl, b2⟩
    have b2 := Lib.hid b2
    go_wp2_with fail
    refine (HB.out _).mono ?_
    rintro e w3 ⟨rfl, b3⟩
    have b3 := Lib.hid b3
    go_wp2
    go_ret
    have s1 := b1.out.size
    have s2 := b2.out.size
    exact ⟨rfl, b1.out.trans ((b2.out.mono s1).trans (b3.out.mono (by omega)))⟩
end Go.Proofs.Ytcgcacegkbbmiaa
