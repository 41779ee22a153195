/- What half, table, the table's closure, More and Sum of package crc compute, for every argument and every memory. -/
import Derived.Test.YtfpoefacdnddoaaRows
import Derived.Test.YtfpoefacdnddoaaMath
import Derived.WalkKit
import Derived.WalkSpells
import Derived.WalkLawsBesides
import Derived.Deep.LoopGhost
import Derived.Lib.Hide
namespace Go.Proofs.Ytfpoefacdnddoaa
open Go.RowKit

theorem wraps_u32 (n : Int) (h₀ : 0 ≤ n) (h₁ : n < 2 ^ 32) : IntKind.u32.wrap n = n := by rw [IntKind.wrap_u32]; omega
theorem xor_u32 (a b : Nat) (ha : a < 4294967296) (hb : b < 4294967296) : bits .xor .u32 (a : Int) (b : Int) = ((a ^^^ b : Nat) : Int) := by
  unfold bits
  have h1 : (BitVec.ofInt IntKind.u32.bits (a : Int)) = BitVec.ofNat 32 a := by simp [IntKind.bits]
  have h2 : (BitVec.ofInt IntKind.u32.bits (b : Int)) = BitVec.ofNat 32 b := by simp [IntKind.bits]
  have h3 : (a ^^^ b) < 4294967296 := Nat.xor_lt_two_pow (n := 32) ha hb
  simp only [h1, h2]
  rw [wraps_u32]
  · show (((BitVec.ofNat 32 a ^^^ BitVec.ofNat 32 b : BitVec 32).toNat : Nat) : Int) = _
    rw [BitVec.toNat_xor, BitVec.toNat_ofNat, BitVec.toNat_ofNat, Nat.mod_eq_of_lt ha, Nat.mod_eq_of_lt hb]
  · omega
  · show (((BitVec.ofNat 32 a ^^^ BitVec.ofNat 32 b : BitVec 32).toNat : Nat) : Int) < _
    rw [BitVec.toNat_xor, BitVec.toNat_ofNat, BitVec.toNat_ofNat, Nat.mod_eq_of_lt ha, Nat.mod_eq_of_lt hb]
    omega
theorem xor_u8 (a b : Nat) (ha : a < 256) (hb : b < 256) : bits .xor .u8 (a : Int) (b : Int) = ((a ^^^ b : Nat) : Int) := by
  unfold bits
  have h1 : (BitVec.ofInt IntKind.u8.bits (a : Int)) = BitVec.ofNat 8 a := by simp [IntKind.bits]
  have h2 : (BitVec.ofInt IntKind.u8.bits (b : Int)) = BitVec.ofNat 8 b := by simp [IntKind.bits]
  have h3 : (a ^^^ b) < 256 := Nat.xor_lt_two_pow (n := 8) ha hb
  simp only [h1, h2]
  rw [wraps_u8]
  · show (((BitVec.ofNat 8 a ^^^ BitVec.ofNat 8 b : BitVec 8).toNat : Nat) : Int) = _
    rw [BitVec.toNat_xor, BitVec.toNat_ofNat, BitVec.toNat_ofNat, Nat.mod_eq_of_lt ha, Nat.mod_eq_of_lt hb]
  · omega
  · show (((BitVec.ofNat 8 a ^^^ BitVec.ofNat 8 b : BitVec 8).toNat : Nat) : Int) < _
    rw [BitVec.toNat_xor, BitVec.toNat_ofNat, BitVec.toNat_ofNat, Nat.mod_eq_of_lt ha, Nat.mod_eq_of_lt hb]
    omega
theorem and1_u32 (a : Nat) (ha : a < 4294967296) : bits .and .u32 (a : Int) 1 = ((a % 2 : Nat) : Int) := by
  have := (bits_nat .u32 32 (by decide) wraps_u32 a 1 ha (by decide)).1
  rw [show ((1 : Nat) : Int) = 1 from rfl] at this
  rw [this, Nat.and_one_is_mod]

theorem ret_u32 {a b : Int} (h : a = b) : Ending.returned (.int .u32 a) = .returned (.int .u32 b) := by rw [h]

set_option maxHeartbeats 400000 in
theorem half_any (a : Nat) (ha : a < 4294967296) (w : World) :
    Calls Try.prog 11 #[.int .u32 (a : Int)] w fun e w' => e = .returned (.int .u32 (Crc.half a : Nat)) ∧ w = w' := by
  have h1 := and1_u32 a ha
  have hx := xor_u32 (a / 2) 3988292384 (by omega) (by omega)
  have H1 := Lib.hid hx; clear hx
  rcases Nat.mod_two_eq_zero_or_one a with h | h
  · have hb : (bits .and .u32 (a : Int) 1 != 0) = false := by rw [h1, h]; rfl
    clear h1
    go_enter Try.func11, Try.ntmps11
    go_wp2
    go_ret
    exact ⟨ret_u32 (by unfold Crc.half; rw [if_neg (by omega)]; omega), rfl⟩
  · have hb : (bits .and .u32 (a : Int) 1 != 0) = true := by rw [h1, h]; rfl
    clear h1
    go_enter Try.func11, Try.ntmps11
    go_wp2
    go_ret
    exact ⟨ret_u32 (by unfold Crc.half; rw [if_pos h, ← H1.out]; rfl), rfl⟩

/-- The table's cells behind k rounds. -/
def tabCells (k : Nat) : Array Value := Array.ofFn (n := 256) fun j => .int .u32 (if j.val < k then ((Crc.halfs 8 j.val : Nat) : Int) else 0)
theorem zero34 (w : World) : (zeroValue 34).run Try.prog w = .ok (.agg (tabCells 0)) w := by kernel_rfl
theorem tabCells_set (k : Nat) : (tabCells k).setIfInBounds k (.int .u32 ((Crc.halfs 8 k : Nat) : Int)) = tabCells (k + 1) := by
  apply Array.ext
  · simp [tabCells]
  · intro i h1 h2
    have h3 : i < (tabCells k).size := by simpa [tabCells] using h2
    rw [Array.getElem_setIfInBounds]
    rotate_left
    · exact h3
    have e : ∀ m, (tabCells m)[i]? = some (.int .u32 (if i < m then ((Crc.halfs 8 i : Nat) : Int) else 0)) := fun m => by
      unfold tabCells
      rw [Array.getElem?_eq_getElem (by simpa [tabCells] using h2)]
      simp
    have ek := e k
    have ek1 := e (k + 1)
    rw [Array.getElem?_eq_getElem (by simpa [tabCells] using h2)] at ek ek1
    rw [Option.some.inj ek, Option.some.inj ek1]
    by_cases h : k = i
    · subst h; simp
    · rw [if_neg h]
      have : (i < k) = (i < k + 1) := by simp; omega
      simp only [this]
theorem tabCells_get (j : Nat) (hj : j < 256) : (tabCells 256)[j]? = some (.int .u32 ((Crc.halfs 8 j : Nat) : Int)) := by
  unfold tabCells
  rw [Array.getElem?_eq_getElem (by simpa using hj)]
  simp
theorem tabCells_size (k : Nat) : (tabCells k).size = 256 := by simp [tabCells]
theorem tabCells_get' (k j : Nat) (hj : j < 256) : ∃ v, (tabCells k)[j]? = some v := by
  exact ⟨_, Array.getElem?_eq_getElem (by rw [tabCells_size]; exact hj)⟩

set_option maxRecDepth 100000 in
set_option maxHeartbeats 400000 in
theorem table_any (w : World) :
    Calls Try.prog 9 #[] w fun e w' => e = .returned (.func (.func 12) #[] #[.pointer (some ⟨w.heap.size, 0, none⟩)]) ∧ w.alloc (.cells (tabCells 256) 34) = w' := by
  have hmf : ∀ (fn : Fn) (first cap : Array Value) (w : World), (Instr.makeFunc fn first cap).run Try.prog w = .ok (.func fn first cap) w := fun _ _ _ _ => rfl
  have hz := zero34
  go_enter Try.func9, Try.ntmps9
  go_wp2
  clear hz
  go_loopw [4] (fun c wr => ∃ k : Nat, k ≤ 256 ∧ c = .int .i64 k ∧ wr = w.alloc (.cells (tabCells k) 34)) (fun c _ => 256 - (intOf c).toNat)
  case atStart => exact ⟨0, by omega, rfl, rfl⟩
  case round =>
    obtain ⟨k, hk, rfl, rfl⟩ := hrel
    by_cases hlt : k < 256
    · have hd : decide ((k : Int) < 256) = true := by simp; omega
      go_wp2
      go_loop [3, 9] (fun n c => ∃ j : Nat, j ≤ 8 ∧ c = .int .i64 j ∧ n = .int .u32 ((Crc.halfs j k : Nat) : Int)) (fun _ c => 8 - (intOf c).toNat)
      case atStart => exact ⟨0, by omega, rfl, rfl⟩
      case round =>
        obtain ⟨j, hj, rfl, rfl⟩ := hrel
        have hb := Crc.halfs_lt j (a := k) (by omega)
        by_cases hj8 : j < 8
        · have hd8 : decide ((j : Int) < 8) = true := by simp; omega
          go_wp2_with (go_at_call 11; refine (half_any _ hb _).mono ?_; rintro e w' ⟨rfl, rfl⟩)
          go_round
          case rel => exact ⟨j + 1, by omega, by go_num, by rw [Crc.halfs_succ]⟩
          case measure => simp [intOf]; omega
        · obtain rfl : j = 8 := by omega
          obtain ⟨v0, hv0⟩ := tabCells_get' k k hlt
          go_wp2
          go_roundw
          case rel => exact ⟨k + 1, by omega, by go_num, by rw [tabCells_set k]⟩
          case measure => simp [intOf]; omega
    · obtain rfl : k = 256 := by omega
      go_wp2
      go_ret
      exact ⟨rfl, rfl⟩
set_option maxHeartbeats 400000 in
theorem look_any (b : Nat) (hb : b < 256) (g : Nat) (w : World) (hg : w.cell? ⟨g, b, none⟩ = some (.int .u32 ((Crc.halfs 8 b : Nat) : Int))) :
    Calls Try.prog 12 #[.int .u8 (b : Int), .pointer (some ⟨g, 0, none⟩)] w fun e w' => e = .returned (.int .u32 ((Crc.halfs 8 b : Nat) : Int)) ∧ w = w' := by
  go_enter Try.func12, Try.ntmps12
  go_wp2
  go_ret
  exact ⟨rfl, rfl⟩

theorem take_snoc (s : ByteArray) (k : Nat) (h : k < s.size) : s.data.toList.take (k + 1) = s.data.toList.take k ++ [s[k]] := by
  rw [List.take_succ_eq_append_getElem (by simpa using h)]; rfl

theorem not_u32 (n : Nat) (hn : n < 4294967296) : bits .xor .u32 IntKind.u32.max (n : Int) = ((n ^^^ 4294967295 : Nat) : Int) := by
  rw [Nat.xor_comm, ← xor_u32 4294967295 n (by omega) hn]; rfl

set_option maxRecDepth 100000 in
set_option maxHeartbeats 400000 in
theorem more_any (n : Nat) (hn : n < 4294967296) (s : ByteArray) (hs : s.size ≤ maxLen) (w : World) :
    Calls Try.prog 7 #[.int .u32 (n : Int), .string s] w fun e w' => e = .returned (.int .u32 (Crc.more n s.data.toList : Nat)) ∧ w.alloc (.cells (tabCells 256) 34) = w' := by
  unfold maxLen at hs
  obtain ⟨m, hm⟩ : ∃ m : Nat, m = n ^^^ 4294967295 := ⟨_, rfl⟩
  have hml : m < 4294967296 := by rw [hm]; exact Nat.xor_lt_two_pow (n := 32) hn (by omega)
  have hnot := not_u32 n hn
  rw [← hm] at hnot
  have Hm := Lib.hid hm; clear hm
  go_enter Try.func7, Try.ntmps7
  go_wp2_with fail
  refine (table_any _).mono ?_
  rintro e w' ⟨rfl, rfl⟩
  go_wp2_with fail
  clear hnot
  go_loop [6, 13] (fun x c => ∃ k : Nat, k ≤ s.size ∧ c = .int .i64 k ∧ x = .int .u32 ((Crc.raw m (s.data.toList.take k) : Nat) : Int)) (fun _ c => s.size - (intOf c).toNat)
  case atStart => exact ⟨0, Nat.zero_le _, rfl, rfl⟩
  case round =>
    obtain ⟨k, hk, rfl, rfl⟩ := hrel
    have hrl := Crc.raw_lt (s.data.toList.take k) hml
    by_cases hlt : k < s.size
    · have hd : decide ((k : Int) < (s.size : Int)) = true := by simp; omega
      have hsn : Crc.raw m (s.data.toList.take (k + 1)) = Crc.upd (Crc.raw m (s.data.toList.take k)) s[k].toNat := by rw [take_snoc s k hlt, Crc.raw_snoc]
      obtain ⟨r, hr⟩ : ∃ r : Nat, r = Crc.raw m (s.data.toList.take k) := ⟨_, rfl⟩
      rw [← hr] at hrl hsn ⊢
      have hc : s[k].toNat < 256 := s[k].toNat_lt
      obtain ⟨q, hq⟩ : ∃ q : Nat, q = (r % 256) ^^^ s[k].toNat := ⟨_, rfl⟩
      have hql : q < 256 := by rw [hq]; exact Nat.xor_lt_two_pow (n := 8) (by omega) hc
      have hx8 := xor_u8 (r % 256) s[k].toNat (by omega) hc
      rw [← hq] at hx8
      have hx32 := xor_u32 (r / 256) (Crc.halfs 8 q) (by omega) (Crc.halfs_lt 8 (by omega))
      rw [show r / 256 ^^^ Crc.halfs 8 q = Crc.upd r s[k].toNat from by rw [hq]; rfl, ← hsn] at hx32
      have H1 := Lib.hid hr; clear hr
      have H2 := Lib.hid hq; clear hq
      have H3 := Lib.hid hsn; clear hsn
      have e1 : ((r % 256 : Nat) : Int) = (r : Int) % 256 := by omega
      have e2 : ((r / 256 : Nat) : Int) = (r : Int) / 256 := by omega
      rw [e1] at hx8; rw [e2] at hx32; clear e1 e2
      have hcell : (w.alloc (.cells (tabCells 256) 34)).cell? ⟨w.heap.size, q, none⟩ = some (.int .u32 ((Crc.halfs 8 q : Nat) : Int)) := by
        rw [World.cell?_alloc_at _ _ _ _ rfl, tabCells_get q hql]
      go_wp2_with fail
      refine (look_any q hql _ _ hcell).mono ?_
      rintro e w' ⟨rfl, rfl⟩
      go_wp2
      go_round
      case rel => exact ⟨k + 1, by omega, by go_num, rfl⟩
      case measure => simp [intOf]; omega
    · have hfull : s.data.toList.take k = s.data.toList := List.take_of_length_le (by simp; omega)
      rw [hfull] at hrl ⊢
      have hno := not_u32 _ hrl
      have hmore : Crc.more n s.data.toList = Crc.raw m s.data.toList ^^^ 4294967295 := by rw [Hm.out]; rfl
      rw [← hmore] at hno
      obtain ⟨r, hr⟩ : ∃ r : Nat, r = Crc.raw m s.data.toList := ⟨_, rfl⟩
      rw [← hr] at hno hrl ⊢
      have H1 := Lib.hid hr; clear hr
      have H2 := Lib.hid hmore; clear hmore
      clear hfull
      go_wp2
      go_ret
      exact ⟨rfl, rfl⟩

set_option maxHeartbeats 400000 in
theorem sum_any (s : ByteArray) (hs : s.size ≤ maxLen) (w : World) :
    Calls Try.prog 6 #[.string s] w fun e w' => e = .returned (.int .u32 (Crc.sum s.data.toList : Nat)) ∧ w.alloc (.cells (tabCells 256) 34) = w' := by
  go_enter Try.func6, Try.ntmps6
  go_wp2_with fail
  refine (more_any 0 (by omega) s hs _).mono ?_
  rintro e w' ⟨rfl, rfl⟩
  rw [Crc.more_zero]
  go_wp2
  go_ret
  exact ⟨rfl, rfl⟩
end Go.Proofs.Ytfpoefacdnddoaa
