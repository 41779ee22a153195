/- What slices.Repeat (of one element), slices.Grow (of nil), slices.Concat do. -/
import Derived.Test.YtcgcacegkbbmiaaCodes
import Derived.Laws.CopyOwn
import Derived.Lib.AppendZeros
import Derived.Deep.RegionLaw
import Derived.Laws.Bits64b
namespace Go.Proofs.Ytcgcacegkbbmiaa
open Go.RowKit

theorem mask_u64 (b : Nat) (hb : b < 4294967296) : bits .and .u64 (b : Int) 4294967295 = (b : Int) := by
  have := bits_mask .u64 63 (by decide) (fun n h0 h1 => by rw [IntKind.wrap_u64]; omega) 32 (by omega) (b : Int) (by omega) (by omega)
  rw [show (2 : Int) ^ 32 - 1 = 4294967295 from by decide] at this
  rw [this]; omega

set_option maxRecDepth 100000 in
set_option maxHeartbeats 1000000 in
theorem mul64_any (b : Nat) (hb : b ≤ 1000) (w : World) :
    Calls Try.prog 48 #[.int .u64 1, .int .u64 (b : Int)] w fun e w' => e = .returned (.tuple #[.int .u64 0, .int .u64 (b : Int)]) ∧ w = w' := by
  have h1 : bits .and .u64 1 4294967295 = 1 := by decide
  have h0 : bits .and .u64 0 4294967295 = 0 := by decide
  have hB := mask_u64 b (by omega)
  have hd : (b : Int) / 4294967296 = 0 := by omega
  go_enter Try.func48, Try.ntmps48
  go_wp2
  go_ret2
  exact ⟨rfl, rfl⟩

set_option maxRecDepth 100000 in
set_option maxHeartbeats 1000000 in
theorem mul_any (b : Nat) (hb : b ≤ 1000) (w : World) :
    Calls Try.prog 41 #[.int .u64 1, .int .u64 (b : Int)] w fun e w' => e = .returned (.tuple #[.int .u64 0, .int .u64 (b : Int)]) ∧ w = w' := by
  have h := mul64_any b hb w
  have H := Lib.hid h; clear h
  go_enter Try.func41, Try.ntmps41
  go_wp2_with fail
  refine H.out.mono ?_
  rintro e w' ⟨rfl, rfl⟩
  go_wp2
  go_ret2
  exact ⟨rfl, rfl⟩

theorem splice_fill (n k m x : Nat) (h : k + m ≤ n) : (splice (ints n fun j => if j < k then x else 0).toList k (List.replicate m (Value.int .i64 (x : Int)))).toArray = ints n fun j => if j < k + m then x else 0 := by
  apply Array.ext'
  apply List.ext_getElem?
  intro i
  unfold splice
  have e : ∀ f : Nat → Nat, (ints n f).toList[i]? = if i < n then some (.int .i64 (f i : Int)) else none := fun f => by
    by_cases hi : i < n
    · rw [if_pos hi, ← ints_get f hi]; simp
    · rw [if_neg hi]; simp [ints]; omega
  have hlen : (ints n fun j => if j < k then x else 0).toList.length = n := by simp [ints]
  rw [List.toList_toArray, e]
  by_cases h1 : i < k
  · rw [List.getElem?_append_left (by rw [List.length_take, hlen]; omega), List.getElem?_take, if_pos h1, e, if_pos (by omega), if_pos h1, if_pos (by omega), if_pos (by omega)]
  · rw [List.getElem?_append_right (by rw [List.length_take, hlen]; omega), List.length_take, hlen, show min k n = k from by omega]
    by_cases h2 : i < k + m
    · rw [List.getElem?_append_left (by simp; omega), List.getElem?_replicate, if_pos (by omega), if_pos (by omega), if_pos h2]
    · rw [List.getElem?_append_right (by simp; omega), List.length_replicate, List.getElem?_drop, show k + m + (i - k - m) = i from by omega, e]
      by_cases h3 : i < n
      · rw [if_pos h3, if_pos h3, if_neg h1, if_neg h2]
      · rw [if_neg h3, if_neg h3]

theorem size3 : (Try.prog.info? 3).map (·.size) = some 1 := by kernel_rfl

/-- One round of the doubling. -/
theorem copy_double (o n k x : Nat) (hk : k < n) (W : World) (H : W.heap[o]? = some (.cells (ints n fun j => if j < k then x else 0) 3)) (B : Nat) (w0 : World) (hb : Below B w0 W) (hB : B ≤ o) :
    ∃ w4, (∀ ty, (Builtin.copy_ #[34, 34] ty #[.slice (some ⟨o, k, none⟩) (n - k) (n - k), .slice (some ⟨o, 0, none⟩) k n]).run Try.prog W = .ok (.int .i64 ((min k (n - k) : Nat) : Int)) w4) ∧
      w4.heap[o]? = some (.cells (ints n fun j => if j < k + min k (n - k) then x else 0) 3) ∧ Below B w0 w4 := by
  have hsrc : ∀ j v, (List.replicate (min k (n - k)) (Value.int .i64 (x : Int)))[j]? = some v → W.cell? ((⟨o, 0, none⟩ : Addr).add j) = some v := fun j v hv => by
    have hj : j < min k (n - k) := by
      have := (List.getElem?_eq_some_iff.1 hv).1
      simpa using this
    rw [List.getElem?_replicate, if_pos hj] at hv
    have hadd : (⟨o, 0, none⟩ : Addr).add j = ⟨o, j, none⟩ := by unfold Addr.add; split <;> simp_all
    rw [hadd, cell_at H, ints_get _ (by omega), if_pos (by omega)]
    exact hv
  have hr := fun ty => run_copy_row (P := Try.prog) W 34 34 ty 3 o k (n - k) (n - k) ⟨o, 0, none⟩ k n _ 3 (List.replicate (min k (n - k)) (Value.int .i64 (x : Int))) Try.underlying34 size3 H (by simp) hsrc (by rw [List.length_replicate, ints_size]; omega) (fun v hv => by
    obtain ⟨_, rfl⟩ := List.mem_replicate.1 hv; rfl)
  rw [List.length_replicate] at hr
  refine ⟨_, hr, ?_, below_setRow hb hB _⟩
  have := splice_fill n k (min k (n - k)) x (by omega)
  unfold splice at this
  rw [List.length_replicate] at this
  rw [setRow_heap W o _ _ 3 _ H, ← this, List.append_assoc]

set_option maxRecDepth 100000 in
set_option maxHeartbeats 1000000 in
theorem repeat_any {g off c : Nat} (x n : Nat) (h1 : 1 ≤ n) (hn : n ≤ 300) (w : World) (hg : g < w.heap.size) (hc : w.cell? ⟨g, off, none⟩ = some (.int .i64 (x : Int))) :
    Calls Try.prog 30 #[.slice (some ⟨g, off, none⟩) 1 c, .int .i64 (n : Int)] w fun e w' => e = .returned (.slice (some ⟨w.heap.size, 0, none⟩) n n) ∧ Below w.heap.size w w' ∧ w'.heap[w.heap.size]? = some (.cells (ints n fun _ => x) 3) := by
  have hm := mul_any n (by omega) w
  have HM := Lib.hid hm; clear hm
  have hmk := make_ints n (by omega)
  have hd0 : decide ((n : Int) < 0) = false := by simp
  go_enter Try.func30, Try.ntmps30
  go_wp2_with fail
  refine HM.out.mono ?_
  rintro e w' ⟨rfl, rfl⟩
  have hgo : g ≠ w.heap.size := by omega
  go_wp2_with (refine wpList_copy_splice rfl (.tmp 31) (.tmp 32) 34 34 rfl 3 Try.underlying34 size3 (some ⟨w.heap.size, 0, none⟩) (some ⟨g, off, none⟩) n n 1 c rfl rfl w.heap.size 0 (ints n fun j => if j < 0 then x else 0).toList 3 ?c1 (List.replicate 1 (.int .i64 (x : Int))) ?c2 ?c3 ?c4 ?c5 w.heap.size w ?c6 (Nat.le_refl _) ?c7)
  case c1 => simpa using heap_alloc_new w _
  case c2 => show 1 = min 1 n; omega
  case c3 =>
    intro j v hv
    rcases j with _ | j
    · simp at hv
      subst hv
      exact hc
    · simp at hv
  case c4 => simp [ints]; omega
  case c5 => intro v hv; simp at hv; subst hv; rfl
  case c6 => exact (Below.refl _ _).alloc (Nat.le_refl _) _
  case c7 =>
  intro w1 hw1 hb1
  have hw1 := hw1.out
  have hsf := splice_fill n 0 1 x (by omega)
  simp only [Nat.not_lt_zero, ↓reduceIte, List.replicate_succ, List.replicate_zero, Nat.zero_add] at hsf
  rw [hsf] at hw1
  obtain ⟨o, ho⟩ : ∃ o, o = w.heap.size := ⟨_, rfl⟩
  rw [← ho] at hw1 ⊢
  have HW1 := Lib.hid hw1; clear hw1
  have HB1 := Lib.hid hb1; clear hb1
  have HO := Lib.hid ho; clear ho
  clear hsf hgo
  go_wp2_with fail
  go_loopg [8] n (fun g i wr => ∃ k : Nat, g = n + 1 - k ∧ 1 ≤ k ∧ k ≤ n ∧ i = .int .i64 (k : Int) ∧ Hid (wr.heap[o]? = some (.cells (ints n fun j => if j < k then x else 0) 3)) ∧ Hid (Below w.heap.size w wr))
  case atStart => exact ⟨1, by omega, Nat.le_refl _, h1, rfl, HW1, HB1⟩
  case round =>
    obtain ⟨k, hgk, hk1, hkn, rfl, HR, HBr⟩ := hrel
    by_cases hlt : k < n
    · have hd : decide ((k : Int) < (n : Int)) = true := by simp; omega
      go_wp2_with fail
      have i0 : (0 : Int) ≤ (k : Int) := by omega
      have i1 : (k : Int) ≤ (n : Int) := by omega
      have hnk : ¬ n = k := by omega
      obtain ⟨w4, hcopy, H4, B4⟩ := copy_double o n k x hlt wr.drew HR.out w.heap.size w HBr.out.drew (by rw [HO.out]; exact Nat.le_refl _)
      obtain ⟨m, hm⟩ : ∃ m, m = min k (n - k) := ⟨_, rfl⟩
      rw [← hm] at hcopy H4
      have hm1 : 1 ≤ m := by omega
      have hm2 : k + m ≤ n := by omega
      have H4 := Lib.hid H4
      have B4 := Lib.hid B4
      clear hm
      go_region
      all_goals
        go_wp2
        go_roundg (n + 1 - (k + m))
        case measure => omega
        case rel => exact ⟨k + m, rfl, by omega, hm2, by go_num, H4, B4⟩
    · obtain rfl : k = n := by omega
      have hd : decide ((k : Int) < (k : Int)) = false := by simp
      go_wp2
      go_ret
      rw [← HO.out]
      refine ⟨rfl, by rw [HO.out]; exact HBr.out, ?_⟩
      rw [HR.out, ints_congr (fun j hj => ?_)]
      rw [if_pos hj]
end Go.Proofs.Ytcgcacegkbbmiaa
